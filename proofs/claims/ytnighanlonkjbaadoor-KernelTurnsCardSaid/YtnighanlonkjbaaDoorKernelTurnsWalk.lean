/- The walk of framelaw1.KernelTurns: it returns true at every input. -/
import Derived.Test.YtnighanlonkjbaaDoorKernRun
import Derived.Test.YtnighanlonkjbaaDoorKernOthers
import Derived.Test.YtnighanlonkjbaaDoorOneKern
import Derived.Test.YtnighanlonkjbaaDoorSameState
import Derived.Test.YtnighanlonkjbaaDoorTurnsLaw
import Derived.Test.YtnighanlonkjbaaDoorSightW
import Derived.IntWalk
namespace Go.Proofs.YtnighanlonkjbaaDoor
open Go.RowKit
set_option maxRecDepth 100000

/-- The plan of the closed fact. -/
def turnsPl : Pl := ⟨[[⟨1, 2, 7⟩]], 2, [⟨0, 1, 0⟩], []⟩
theorem turns_ok : planChk turnsPl = 0 := by decide
def turnsK1 : Kst := ⟨[⟨0, 0, 0, 7, 0, 0, 0, false⟩], [], 1⟩
def turnsK2 : Kst := ⟨[⟨0, 0, 0, 7, 0, 0, 0, false⟩], [], 2⟩
theorem turns_t1 : tick turnsPl (kNew turnsPl) = (⟨0, 0, 0, 0⟩, turnsK1) := by rfl
theorem turns_t2 : tick turnsPl turnsK1 = (⟨1, -1, 0, 0⟩, turnsK2) := by rfl
theorem turns_k1 : KOk turnsPl turnsK1 1 := by
  have h := tick_ok (planChk_ok turns_ok) (kNew_ok (planChk_ok turns_ok)) (spans_ok (planChk_ok turns_ok))
  have h2 := turns_t1
  unfold tick at h2
  rw [h2] at h
  exact h

theorem Tryd.infoHeld : (Tryd.prog.info? 53).map (fun i => (i.zero, i.size, i.bytes)) = some (some (.agg #[.slice none 0 0, .int .i64 0]), 2, 32) := by kernel_rfl
theorem sl_held {w3 : World} {o : Obj} {A : Option Addr} {n c : Nat} {l : Int} : Sl ((w3.alloc o).alloc (.cells #[.slice A n c, .int .i64 l] 53)) (some ⟨w3.heap.size + 1, 0, none⟩) 2 1 [.slice A n c, .int .i64 l] := by
  have h : ((w3.alloc o).alloc (.cells #[.slice A n c, .int .i64 l] 53)).heap[w3.heap.size + 1]? = some (.cells #[.slice A n c, .int .i64 l] 53 (0, 0)) := by
    rw [hp_alloc, if_pos (by rw [sz_alloc])]
  refine ⟨rfl, fun _ => ⟨_, 0, rfl, blk_lt h, fun j u hu => ?_⟩⟩
  rw [Nat.zero_add, blk_cell h]
  simpa using hu
/-- What is told of a wire, its length by a name. -/
def WireN (w : World) (n : Nat) (items : List Int) (lost : Int) (e : Ending) (w' : World) : Prop :=
  ∃ A cap, e = .returned (.tuple #[.agg #[.slice A n cap, .int .i64 lost], .nilIface]) ∧ Row w' 3 1 A n cap (ints items) ∧ (∀ k, InA A k → w.heap.size ≤ k) ∧ Below w.heap.size w w'
theorem turns_new {w : World} (hf : Forms w) (s : Nat) (hz : w.heap.size = s) :
    Calls Tryd.prog 33 #[.agg #[.slice (some ⟨s + 1, 0, none⟩) 1 1, .int .i64 2, .slice (some ⟨s + 1 + 1, 0, none⟩) 1 1, .slice none 0 0]]
      (((w.alloc (.cells #[.int .i64 1, .int .i64 2, .int .i64 7] 27)).alloc (.cells #[.slice (some ⟨s, 0, none⟩) 1 1] 22)).alloc (.cells #[.int .i64 0, .int .i64 1, .int .i64 0] 83)) (KNew w turnsPl) :=
  one_new [⟨1, 2, 7⟩] 2 [⟨0, 1, 0⟩] hf (by decide) (by decide) (by decide) (by simp [Op.Ok, Fits]) (by simp [Span.Ok, Fits]) turns_ok s hz

set_option maxHeartbeats 4000000 in
theorem kernelTurns_walk {w : World} (hf : Forms w) (m : PM) (hm : PlanAt w m) (n : Int) (_hn : Fits n) :
    Calls Tryd.prog 9 #[.agg #[.slice m.A m.ros.length m.c, .int .i64 m.ticks, .slice m.sA m.spans.length m.sc, .slice m.wA m.wires.length m.wc], .int .i64 n] w fun e w' => e = .returned (.bool true) ∧ Below w.heap.size w w' := by
  have HF := hid hf
  have HM := hid hm
  obtain ⟨W1, hW1⟩ : ∃ W1, W1 = w.alloc (.cells #[.slice m.A m.ros.length m.c, .int .i64 m.ticks, .slice m.sA m.spans.length m.sc, .slice m.wA m.wires.length m.wc] 70) := ⟨_, rfl⟩
  have hz1 : W1.heap.size = w.heap.size + 1 := by rw [hW1]; simp
  have hb1 : Below w.heap.size w W1 := by rw [hW1]; exact (Below.refl _ _).alloc (Nat.le_refl _) _
  have hbox : W1.heap[w.heap.size]? = some (.cells #[.slice m.A m.ros.length m.c, .int .i64 m.ticks, .slice m.sA m.spans.length m.sc, .slice m.wA m.wires.length m.wc] 70 (0, 0)) := by rw [hW1]; exact heap_alloc_new w _
  have HZ1 := hid hz1
  have HB1 := hid hb1
  have HBOX := hid hbox
  clear hz1 hb1 hbox hf hm
  obtain ⟨nr, hnr⟩ : ∃ nr, m.ros.length = nr := ⟨_, rfl⟩
  obtain ⟨ns, hns⟩ : ∃ ns, m.spans.length = ns := ⟨_, rfl⟩
  obtain ⟨nw, hnw⟩ : ∃ nw, m.wires.length = nw := ⟨_, rfl⟩
  rw [hnr, hns, hnw] at hW1 HBOX ⊢
  have HNR := hid hnr
  have HNS := hid hns
  have HNW := hid hnw
  clear hnr hns hnw
  go_enter Tryd.func9, Tryd.ntmps9
  go_wp2_with fail
  rw [← hW1]
  clear hW1
  have hnew := turns_new (HF.out.new HB1.out) (w.heap.size + 1) HZ1.out
  refine hnew.mono ?_
  clear hnew
  rintro e w1 ⟨kb1, M1, rfl, hr1⟩
  have HR1 := hid hr1
  clear hr1
  go_wp2_with fail
  have ht := tick_run HR1.out (planChk_ok turns_ok) (kNew_ok (planChk_ok turns_ok)) (by decide)
  rw [turns_t1] at ht
  refine ht.mono ?_
  clear ht
  rintro e w2 ⟨M2, rfl, hr2, _, _⟩
  have HR2 := hid hr2
  clear hr2 HR1
  go_wp2_with fail
  have hs := state_run (r := 0) (s := ⟨0, 0, 0, 7, 0, 0, 0, false⟩) (HR2.out.new ((Below.refl _ _).alloc (Nat.le_refl _) (.cells #[.int .i64 0, .int .i64 0, .int .i64 0, .int .i64 0] 77))) (planChk_ok turns_ok) turns_k1 rfl
  refine hs.mono ?_
  clear hs
  rintro e w3 ⟨rfl, hb3⟩
  have hbe := (hb3.block w2.heap.size (by simp)).trans (heap_alloc_new w2 _)
  have e1 := blk_cell hbe 1
  simp at e1
  have hlt1 := cell_lt e1
  have HR3 := hid (HR2.out.new (((Below.refl _ _).alloc (Nat.le_refl _) (.cells #[.int .i64 0, .int .i64 0, .int .i64 0, .int .i64 0] 77)).trans (hb3.mono (by simp))))
  clear hb3 hbe HR2
  unfold stV
  go_wp2_with fail
  have ht := tick_run (HR3.out.new ((Below.refl _ _).alloc (Nat.le_refl _) (.cells #[.int .i64 0, .int .i64 0, .int .i64 0, .int .i64 7, .int .i64 0, .int .i64 0, .int .i64 0, .bool false] 25))) (planChk_ok turns_ok) turns_k1 (by decide)
  rw [turns_t2] at ht
  refine ht.mono ?_
  clear ht
  rintro e w4 ⟨M4, rfl, hr4, _, _⟩
  have htm := time_run hr4
  have HTM : Hid (Calls Tryd.prog 37 #[.pointer (some ⟨kb1, 0, none⟩)] w4 fun e w' => e = .returned (.int .i64 2) ∧ w4 = w') := htm
  have HBW := hid hr4.below
  have hfd : ∀ (a b c d : Int) (w : World), (Instr.field 77 (.agg #[.int .i64 a, .int .i64 b, .int .i64 c, .int .i64 d]) 1).run Tryd.prog w = .ok (.int .i64 b) w := fun a b c d w => by kernel_rfl
  clear hr4 htm HR3 e1 hlt1
  go_upto_region 8 with (go_at_call 37; refine (HTM.out).mono ?_; rintro e w5 ⟨rfl, rfl⟩)
  clear HTM hfd
  have hbx := (HBW.out.block w.heap.size (by have := HZ1.out; omega)).trans HBOX.out
  have hlt := blk_lt hbx
  have x0 := blk_cell hbx 0
  have x1 := blk_cell hbx 1
  have x2 := blk_cell hbx 2
  have x3 := blk_cell hbx 3
  simp at x0 x1 x2 x3
  have HW0 := hid (HB1.out.trans (HBW.out.mono (by have := HZ1.out; omega)))
  clear hbx
  by_cases he : planChk m.pl = 0
  · have hnew := new_run w4 m (HF.out.new HW0.out) (HM.out.new HW0.out) he
    have hp := planChk_ok he
    have hnr : m.ros.length = nr := HNR.out
    have hns : m.spans.length = ns := HNS.out
    have hnw : m.wires.length = nw := HNW.out
    rw [hnr, hns, hnw] at hnew
    have HNEW := hid hnew
    have HP := hid hp
    have hnr5 : nr ≤ 5 := by have h := hp.most5; simp only [PM.pl, List.length_map, hnr] at h; exact h
    have hnw12 : nw ≤ 12 := by have h := wires_few hp; simp only [PM.pl, hnw] at h; exact h
    have hcl : m.pl.code.length = nr := by simp only [PM.pl, List.length_map, hnr]
    have hwl : m.pl.wires.length = nw := hnw
    have HWHO : Hid (∀ (i : Nat) (w' : World), i ≤ 1000 → Below w.heap.size w w' → Calls Tryd.prog 38 #[.int .i64 m.ticks, .slice m.sA ns m.sc, .int .i64 i] w' fun e w'' => e = .returned (.tuple #[.int .i64 (whoAt m.pl i), .nilIface]) ∧ Below w'.heap.size w' w'') := fun i w' hi hb => by
      have h := who_any m.ticks i m.sA m.sc m.spans w' (HM.out.spans.new hb) HM.out.spansW (by omega)
      rw [hns] at h
      have hw : whoOf m.ticks m.spans i = (whoAt m.pl i, 0) := by
        unfold whoOf
        rw [if_neg (show ¬ (frameChk m.ticks m.spans).2 ≠ 0 from fun h => h hp.frame), if_neg (by omega)]; rfl
      rw [hw] at h
      unfold Tell at h
      rw [errV_zero] at h
      exact h
    have HROOM : Hid (∀ i r : Nat, r < nr → ∃ s t, (runK m.pl i).rooms[r]? = some s ∧ (runK m.pl (i + 1)).rooms[r]? = some t ∧ ((r : Int) ≠ whoAt m.pl i → t = s)) := fun i r hr => turns_room hp i r (by rw [hcl]; exact hr)
    have HLINE : Hid (∀ (i j : Nat) (x : Wire), m.wires[j]? = some x → ∃ y z, (runK m.pl i).lines[j]? = some y ∧ (runK m.pl (i + 1)).lines[j]? = some z ∧ z.items.length ≤ 6 ∧ (x.fr ≠ whoAt m.pl i → x.to ≠ whoAt m.pl i → z = y)) := fun i j x hx => turns_wire hp i j hx
    have HTICK : Hid (∀ i, ∃ pc what : Int, tick m.pl (runK m.pl i) = (⟨i, whoAt m.pl i, pc, what⟩, runK m.pl (i + 1))) := fun i => turns_tick hp i
    have HKOK : Hid (∀ i, KOk m.pl (runK m.pl i) i) := fun i => runK_ok hp i
    have HRL : Hid (∀ i, (runK m.pl i).rooms.length = nr) := fun i => by rw [(runK_ok hp i).rooms, hcl]
    have HLL : Hid (∀ i, (runK m.pl i).lines.length = nw) := fun i => by rw [lines_len (runK_ok hp i), hwl]
    have HWIRES : Hid (∀ j, j < nw → ∃ x b off, m.wires[j]? = some x ∧ m.wA = some ⟨b, off, none⟩ ∧ b < w.heap.size ∧ w.cell? ⟨b, off + j * 4, none⟩ = some (.int .i64 x.fr) ∧ w.cell? ⟨b, off + j * 4 + 1, none⟩ = some (.int .i64 x.to)) := fun j hj => by
      rw [← hnw] at hj
      obtain ⟨b, off, hA, hb, hc⟩ := HM.out.wires.2 (by omega)
      have hx := List.getElem?_eq_getElem hj
      refine ⟨m.wires[j], b, off, hx, hA, hb, hc (j * 4) _ ((flatMap_get Wire.cells 4 Wire.len m.wires j 0 _ hx (by decide)).trans rfl), ?_⟩
      have := hc (j * 4 + 1) _ ((flatMap_get Wire.cells 4 Wire.len m.wires j 1 _ hx (by decide)).trans rfl)
      rw [Nat.add_assoc]; exact this
    have hwW := HM.out.wiresW
    rw [hnw] at hwW
    obtain ⟨hwc, hwm, _⟩ := hwW
    unfold maxLen at hwm
    clear hnew hnr hns hnw hp he hcl hwl
    obtain ⟨i0, hi, hz0, hz1, hz2⟩ := info_parts Tryd.infoSt
    obtain ⟨i1, hi1, hy0, hy1, hy2⟩ := info_parts Tryd.infoHeld
    go_wp2_with (go_at_call 33; refine (HNEW.out).mono ?_; rintro e w6 ⟨kb, M6, rfl, hr6⟩; have HR6 := hid hr6; clear hr6)
    clear x0 x1 x2 x3 hlt HNEW
    have HB4 := hid HBW.out
    have HBX4 := hid ((HBW.out.block w.heap.size (by have := HZ1.out; omega)).trans HBOX.out)
    clear HBW
    go_loopw [12] (fun v12 wr => ∃ (i : Nat) (M : KM), i ≤ 100 ∧ v12 = .int .i64 i ∧ KRun w4 wr kb m.pl M (runK m.pl i)) (fun v12 _ => 100 - (intOf v12).toNat)
    case atStart => exact ⟨0, M6, by omega, rfl, HR6.out⟩
    case round =>
      obtain ⟨wo, rfl⟩ : ∃ wo : World, wo = wr := ⟨_, rfl⟩
      obtain ⟨i, M, hi100, rfl, hkr⟩ := hrel
      have HKR := hid hkr
      have HBXR := hid ((hkr.below.block w.heap.size (blk_lt HBX4.out)).trans HBX4.out)
      have HWR := hid (hkr.back HW0.out)
      clear hkr
      by_cases hin : (i : Int) < n
      · by_cases h100 : i < 100
        · have x1 := blk_cell HBXR.out 1
          have x2 := blk_cell HBXR.out 2
          have hltx := blk_lt HBXR.out
          simp at x1 x2
          go_wp2_with (go_at_call 38; refine (HWHO.out _ _ (by omega) HWR.out).mono ?_; rintro e w7 ⟨rfl, hb7⟩; have HB7 := hid hb7; clear hb7)
          clear x1 x2 hltx
          have HK7 := hid (HKR.out.new HB7.out)
          have HBX7 := hid ((HB7.out.block w.heap.size (blk_lt HBXR.out)).trans HBXR.out)
          have HW7 := hid (HWR.out.trans (HB7.out.mono HWR.out.size))
          clear HBXR HWR HB7
          obtain ⟨K, hK⟩ : ∃ K, K = runK m.pl i := ⟨_, rfl⟩
          have HKE := hid hK
          have hrl := HRL.out i
          have hll := HLL.out i
          rw [← hK] at HK7 hrl hll
          have HRLK := hid hrl
          have HLLK := hid hll
          clear hK hrl hll
          go_loopw [15, 17, 18, 19] (fun v15 v17 v18 v19 wq => ∃ (r : Nat) (A : Option Addr) (c : Nat), r ≤ nr ∧ v17 = .int .i64 r ∧ v15 = .slice A r c ∧ Grow w7 wq 25 8 A r c ((K.rooms.take r).flatMap St.cells)) (fun _ v17 _ _ _ => nr - (intOf v17).toNat)
          case atStart => exact ⟨0, none, 0, by omega, rfl, rfl, Grow.nil (Below.refl _ _)⟩
          case round =>
            obtain ⟨wq, rfl⟩ : ∃ wq : World, wq = wr := ⟨_, rfl⟩
            obtain ⟨r, A, c, hr, rfl, rfl, hgr⟩ := hrel
            have HGR := hid hgr
            have hbq := (hgr.below.block w.heap.size (blk_lt HBX7.out)).trans HBX7.out
            have x0 := blk_cell hbq 0
            have hltx := blk_lt hbq
            simp at x0
            have HBXQ := hid hbq
            clear hgr hbq
            by_cases hrn : r < nr
            · have hg : K.rooms[r]? = some (K.rooms[r]'(by rw [HRLK.out]; exact hrn)) := List.getElem?_eq_getElem _
              have HTKE := hid (List.take_succ_eq_append_getElem (l := K.rooms) (i := r) (by rw [HRLK.out]; exact hrn))
              have hst := state_run (HK7.out.new HGR.out.below) HP.out (by rw [HKE.out]; exact HKOK.out i) hg
              generalize K.rooms[r]'(by rw [HRLK.out]; exact hrn) = s at hst HTKE
              obtain ⟨pc, c0', c1, c2, c3, c4, c5, f⟩ := s
              unfold stV at hst
              have HSC := hid hst
              clear hst hg
              go_wp2_with (first | (go_at_call 36; refine (HSC.out).mono ?_; rintro e w8 ⟨rfl, hb8⟩; have HB8 := hid hb8; clear hb8) | (at_builtin; refine wpList_append_row _ rfl _ _ 85 rfl 25 i0 _ 8 64 Tryd.underlying85 hi hz0 hz1 hz2 rfl (by decide) A r c ((K.rooms.take r).flatMap St.cells) rfl ?c0 (some ⟨w8.heap.size + 1, 0, none⟩) 1 1 (St.cells ⟨pc, c0', c1, c2, c3, c4, c5, f⟩) rfl ?c1 ?c2 ?c3 ?c4 ?_))
              case c0 => exact HGR.out.row.keep fun j _ hl => by rw [blk_alloc (by rw [sz_alloc]; have := HB8.out.size; omega), blk_alloc (by have := HB8.out.size; omega)]; exact HB8.out.block j hl
              case c1 => exact sl_states _
              case c2 => exact one_state _
              case c3 => unfold maxLen; omega
              case c4 => omega
              intro A' cap' w9 hrow9 hkeep9 hin9
              have HG9 := hid (HGR.out.more ((HB8.out.alloc HB8.out.size _).alloc (by rw [sz_alloc]; have := HB8.out.size; omega) _) hrow9 hkeep9 (fun k hk => (hin9 k hk).imp_right (fun h => by rw [sz_alloc, sz_alloc]; exact h)))
              clear hrow9 hkeep9 hin9
              go_wp2_with fail
              go_roundw
              case rel => exact ⟨r + 1, A', cap', by omega, by go_num, rfl, by rw [HTKE.out]; simpa using HG9.out⟩
              case measure => simp [intOf]; omega
            · have hre : nr = r := by omega
              have HG7 : Hid (Grow w7 wq 25 8 A r c (K.rooms.flatMap St.cells)) := by
                have h := HGR.out
                rw [List.take_of_length_le (by rw [HRLK.out]; omega)] at h
                exact h
              subst hre
              clear HGR
              have x3 := blk_cell HBXQ.out 3
              simp at x3
              go_wp2_with fail
              go_loopw [16, 20, 21, 22] (fun v16 v20 v21 v22 wt => ∃ (q : Nat) (B : Option Addr) (d : Nat) (hs : List Hm), q ≤ nw ∧ v20 = .int .i64 q ∧ v16 = .slice B q d ∧ Helds wq wt B q d hs ∧ hs.map Hm.val = (K.lines.take q).map (fun x => (x.items, x.lost))) (fun _ v20 _ _ _ => nw - (intOf v20).toNat)
              case atStart => exact ⟨0, none, 0, [], by omega, rfl, rfl, Helds.nil (Below.refl _ _), rfl⟩
              case round =>
                obtain ⟨wt, rfl⟩ : ∃ wt : World, wt = wr := ⟨_, rfl⟩
                obtain ⟨q, B, d, hs, hq, rfl, rfl, hhs, hval⟩ := hrel
                have HHS := hid hhs
                have HVAL := hid hval
                have hbt := (hhs.grow.below.block w.heap.size (blk_lt HBXQ.out)).trans HBXQ.out
                clear x0 x3 hltx
                have x3 := blk_cell hbt 3
                have hltx := blk_lt hbt
                simp at x3
                have HBXT := hid hbt
                clear hhs hval hbt
                have HBQT := hid (HG7.out.below.trans (HHS.out.grow.below.mono HG7.out.below.size))
                by_cases hqn : q < nw
                · have hg : K.lines[q]? = some (K.lines[q]'(by rw [HLLK.out]; exact hqn)) := List.getElem?_eq_getElem _
                  have HTKE := hid (List.take_succ_eq_append_getElem (l := K.lines) (i := q) (by rw [HLLK.out]; exact hqn))
                  have hwi := wire_run (HK7.out.new HBQT.out) HP.out (by rw [HKE.out]; exact HKOK.out i) hg
                  have HSIX : Hid ((K.lines[q]'(by rw [HLLK.out]; exact hqn)).items.length ≤ 6) := by
                    have h := HKOK.out i
                    rw [← HKE.out] at h
                    exact (h.lns _ (List.mem_of_getElem? hg)).six
                  generalize K.lines[q]'(by rw [HLLK.out]; exact hqn) = x at hwi HTKE HSIX
                  obtain ⟨xw, xi, xl⟩ := x
                  unfold WireV at hwi
                  simp only [errV_zero] at hwi
                  obtain ⟨n1, hn1⟩ : ∃ n1, n1 = xi.length := ⟨_, rfl⟩
                  rw [← hn1] at hwi
                  have HN1 := hid hn1
                  have HWI : Hid (Calls Tryd.prog 39 #[.pointer (some ⟨kb, 0, none⟩), .int .i64 q] wt (WireN wt n1 xi xl)) := hwi
                  clear hwi hg hn1
                  go_wp2_with (first | (go_at_call 39; refine (HWI.out).mono ?_; rintro e w8 ⟨A8, c8, rfl, hr8, hf8, hb8⟩; have HB8 := hid hb8; have HR8 := hid hr8; have HF8 := hid hf8; clear hb8 hr8 hf8) | (at_builtin; refine wpList_append_row _ rfl _ _ 86 rfl 53 i1 _ 2 32 Tryd.underlying86 hi1 hy0 hy1 hy2 rfl (by decide) B q d (hs.flatMap Hm.cells) rfl ?c0 (some ⟨w8.heap.size + 1, 0, none⟩) 1 1 [.slice A8 n1 c8, .int .i64 xl] rfl ?c1 ?c2 ?c3 ?c4 ?_))
                  case c0 => exact HHS.out.grow.row.keep fun j _ hl => by rw [blk_alloc (by rw [sz_alloc]; have := HB8.out.size; omega), blk_alloc (by have := HB8.out.size; omega)]; exact HB8.out.block j hl
                  case c1 => exact sl_held
                  case c2 => exact fun u hu => by simp at hu; rcases hu with rfl | rfl <;> rfl
                  case c3 => unfold maxLen; omega
                  case c4 => omega
                  intro A' cap' w9 hrow9 hkeep9 hin9
                  have HG9 : Hid (Helds wq w9 A' (q + 1) cap' (hs ++ [⟨A8, c8, xi, xl⟩])) := by
                    have hr8 := HR8.out
                    rw [HN1.out] at hr8 hrow9
                    exact HHS.out.more HB8.out hr8 HSIX.out HF8.out (((Below.refl _ _).alloc (Nat.le_refl _) _).alloc (by simp) _) hrow9 hkeep9 (fun k hk => (hin9 k hk).imp_right (fun h => by rw [sz_alloc, sz_alloc]; exact h))
                  clear hrow9 hkeep9 hin9
                  go_wp2_with fail
                  go_roundw
                  case rel => exact ⟨q + 1, A', cap', hs ++ [⟨A8, c8, xi, xl⟩], by omega, by go_num, rfl, HG9.out, by rw [HTKE.out, List.map_append, List.map_append, HVAL.out]; rfl⟩
                  case measure => simp [intOf]; omega
                · obtain rfl : nw = q := by omega
                  have HVK : Hid (hs.map Hm.val = K.lines.map (fun x => (x.items, x.lost))) := by
                    have h := HVAL.out
                    rw [List.take_of_length_le (by rw [HLLK.out]; omega)] at h
                    exact h
                  clear HVAL
                  obtain ⟨pc, what, htk⟩ := HTICK.out i
                  have hkt := tick_run (HK7.out.new HBQT.out) HP.out (by rw [HKE.out]; exact HKOK.out i) (by omega)
                  rw [HKE.out, htk] at hkt
                  have HKT := hid hkt
                  clear htk hkt
                  obtain ⟨who, hwho⟩ : ∃ who, who = whoAt m.pl i := ⟨_, rfl⟩
                  rw [← hwho] at HKT ⊢
                  have HWE := hid hwho
                  clear hwho
                  go_wp2_with fail
                  refine (HKT.out).mono ?_
                  rintro e w10 ⟨M', rfl, hr10, hk10, hf10⟩
                  clear x3 hltx HKT
                  have hkf : ∀ j, KF kb M j → j < w7.heap.size := fun j hj => HK7.out.kat.lt j (.inl hj)
                  have s7 := HG7.out.below.size
                  have hbt := (hk10.block w.heap.size (blk_lt HBXT.out) (fun hj => by have := HK7.out.fresh _ (.inl hj); have := blk_lt HBX4.out; omega)).trans HBXT.out
                  have HBX10 := hid hbt
                  have HIN := hid (HHS.out.through hk10 fun j hj => by have := hkf j hj; omega)
                  have HROW := hid ((HG7.out.row.new HHS.out.grow.below).through hk10 fun j hj hf => by have := HG7.out.fresh j hj; have := hkf j hf; omega)
                  have HTI := hid (time_run (hr10.new ((Below.refl _ _).alloc (Nat.le_refl _) (.cells #[.int .i64 i, .int .i64 who, .int .i64 pc, .int .i64 what] 77))))
                  have hti := HTI.out
                  rw [runK_at HP.out] at hti
                  replace HTI := hid hti
                  have HR10 := hid hr10
                  clear hbt hr10 hk10 hf10 hkf s7 hti
                  have hw1 : IntKind.i64.wrap ((i : Int) + 1) = ((i + 1 : Nat) : Int) := by rw [IntWalk.i64_in _ (by omega)]; omega
                  go_wp2_with (go_at_call 37; refine (HTI.out).mono ?_; rintro e w11 ⟨rfl, rfl⟩)
                  clear hw1
                  obtain ⟨w11, hw11⟩ : ∃ w11, w11 = w10.alloc (.cells #[.int .i64 i, .int .i64 who, .int .i64 pc, .int .i64 what] 77) := ⟨_, rfl⟩
                  have hb11 : Below w10.heap.size w10 w11 := by rw [hw11]; exact (Below.refl _ _).alloc (Nat.le_refl _) _
                  rw [← hw11]
                  have HK11 := hid (HR10.out.new hb11)
                  have HBX11 := hid ((hb11.block w.heap.size (blk_lt HBX10.out)).trans HBX10.out)
                  have HIN11 := hid (HIN.out.new hb11)
                  have HROW11 := hid (HROW.out.new hb11)
                  have HW11 := hid ((HR10.out.new hb11).back HW0.out)
                  clear hb11 hw11 HTI HROW HIN HBX10 HR10 HG7 HHS HBXT HBQT HK7
                  have hrc := HROW11.out.le
                  unfold maxLen at hrc
                  go_loopw [24, 25, 26] (fun v24 v25 v26 wy => ∃ r : Nat, r ≤ nr ∧ v24 = .int .i64 r ∧ Below w11.heap.size w11 wy) (fun v24 _ _ _ => nr - (intOf v24).toNat)
                  case atStart => exact ⟨0, by omega, rfl, Below.refl _ _⟩
                  case round =>
                    obtain ⟨wy, rfl⟩ : ∃ wy : World, wy = wr := ⟨_, rfl⟩
                    obtain ⟨r, hr, rfl, hby⟩ := hrel
                    have HBY := hid hby
                    have hbq := (hby.block w.heap.size (blk_lt HBX11.out)).trans HBX11.out
                    have x0 := blk_cell hbq 0
                    have x3 := blk_cell hbq 3
                    have hltx := blk_lt hbq
                    simp at x0 x3
                    clear hby hbq
                    by_cases hrn : r < nr
                    · obtain ⟨s, t, g1, g2, g3⟩ := HROOM.out i r hrn
                      have hst := state_run (HK11.out.new HBY.out) HP.out (HKOK.out (i + 1)) g2
                      rw [← HKE.out] at g1
                      obtain ⟨rb, roff, cur, rfl, hh, _, _, _, _, hx⟩ := HROW11.out.elem St.cells St.len (by decide) g1
                      have hrb := blk_lt hh
                      have hc : ∀ j u, s.cells[j]? = some u → wy.cell? ⟨rb, roff + r * 8 + j, none⟩ = some u := fun j u hu => by
                        rw [Nat.add_assoc]; exact (HBY.out.cell (p := ⟨rb, roff + (r * 8 + j), none⟩) hrb).trans ((blk_cell hh _).trans (hx j u hu))
                      have y0 := hc 0 _ rfl
                      have y1 := hc 1 _ rfl
                      have y2 := hc 2 _ rfl
                      have y3 := hc 3 _ rfl
                      have y4 := hc 4 _ rfl
                      have y5 := hc 5 _ rfl
                      have y6 := hc 6 _ rfl
                      have y7 := hc 7 _ rfl
                      rw [← HWE.out] at g3
                      by_cases hrw : (r : Int) = who
                      · have e1 : ((r : Int) == who) = true := by simpa using hrw
                        have e2 : ((r : Int) != who) = false := by simpa using hrw
                        clear g1 g2 g3 hh hx hc y0 y1 y2 y3 y4 y5 y6 y7 hrw
                        unfold stV at hst
                        have HSC := hid hst
                        clear hst
                        go_wp2_with (go_at_call 36; refine (HSC.out).mono ?_; rintro e w12 ⟨rfl, hb12⟩; have HB12 := hid (HBY.out.trans (hb12.mono HBY.out.size)); clear hb12)
                        go_quiet (fail)
                        go_wp2_with fail
                        go_roundw
                        case rel => exact ⟨r + 1, by omega, by go_num, below_drawn (HB12.out.alloc HB12.out.size _) _⟩
                        case measure => simp [intOf]; omega
                      · obtain rfl := g3 hrw
                        have e1 : ((r : Int) == who) = false := by simpa using hrw
                        have e2 : ((r : Int) != who) = true := by simpa using hrw
                        obtain ⟨pc1, c0', c1, c2, c3, c4, c5, f⟩ := t
                        simp only [Nat.add_zero] at y0 y1 y2 y3 y4 y5 y6 y7
                        have hneq : ∀ w, (binOp .neq 25 (.agg #[.int .i64 pc1, .int .i64 c0', .int .i64 c1, .int .i64 c2, .int .i64 c3, .int .i64 c4, .int .i64 c5, .bool f]) (.agg #[.int .i64 pc1, .int .i64 c0', .int .i64 c1, .int .i64 c2, .int .i64 c3, .int .i64 c4, .int .i64 c5, .bool f])).run Tryd.prog w = .ok (.bool false) w := fun w => by
                          have := state_neq ⟨pc1, c0', c1, c2, c3, c4, c5, f⟩ ⟨pc1, c0', c1, c2, c3, c4, c5, f⟩ w
                          rw [stEq_refl] at this; exact this
                        have hgd := state_guard
                        unfold stV at hst
                        have HSC := hid hst
                        have hrby := Nat.lt_of_lt_of_le hrb HBY.out.size
                        clear hst g1 g2 g3 hh hx hc hrw
                        go_wp2_with fail
                        refine (HSC.out).mono ?_
                        rintro e w12 ⟨rfl, hb12⟩
                        have HB12 := hid (HBY.out.trans (hb12.mono HBY.out.size))
                        replace y0 := (hb12.cell (p := ⟨rb, roff + r * 8, none⟩) hrby).trans y0
                        replace y1 := (hb12.cell (p := ⟨rb, roff + r * 8 + 1, none⟩) hrby).trans y1
                        replace y2 := (hb12.cell (p := ⟨rb, roff + r * 8 + 2, none⟩) hrby).trans y2
                        replace y3 := (hb12.cell (p := ⟨rb, roff + r * 8 + 3, none⟩) hrby).trans y3
                        replace y4 := (hb12.cell (p := ⟨rb, roff + r * 8 + 4, none⟩) hrby).trans y4
                        replace y5 := (hb12.cell (p := ⟨rb, roff + r * 8 + 5, none⟩) hrby).trans y5
                        replace y6 := (hb12.cell (p := ⟨rb, roff + r * 8 + 6, none⟩) hrby).trans y6
                        replace y7 := (hb12.cell (p := ⟨rb, roff + r * 8 + 7, none⟩) hrby).trans y7
                        have hltb := Nat.lt_of_lt_of_le hrby hb12.size
                        clear hb12 x0 x3
                        go_wp2_with fail
                        go_quiet (fail)
                        go_wp2_with fail
                        go_roundw
                        case rel => exact ⟨r + 1, by omega, by go_num, below_drawn (HB12.out.alloc HB12.out.size _) _⟩
                        case measure => simp [intOf]; omega
                    · obtain rfl : nr = r := by omega
                      go_wp2_with fail
                      go_loopw [27, 28, 29] (fun v27 v28 v29 wz => ∃ q : Nat, q ≤ nw ∧ v27 = .int .i64 q ∧ Below w11.heap.size w11 wz) (fun v27 _ _ _ => nw - (intOf v27).toNat)
                      case atStart => exact ⟨0, by omega, rfl, HBY.out⟩
                      case round =>
                        obtain ⟨wz, rfl⟩ : ∃ wz : World, wz = wr := ⟨_, rfl⟩
                        obtain ⟨q, hq, rfl, hbz⟩ := hrel
                        have HBZ := hid hbz
                        have hbq := (hbz.block w.heap.size (blk_lt HBX11.out)).trans HBX11.out
                        clear x0 x3 hltx
                        have x3 := blk_cell hbq 3
                        have hltx := blk_lt hbq
                        simp at x3
                        clear hbz hbq
                        by_cases hqn : q < nw
                        · obtain ⟨x, wb, woff, g1, hwA, hwb, hc0, hc1⟩ := HWIRES.out q hqn
                          obtain ⟨y, z, g2, g3, g4, g5⟩ := HLINE.out i q x g1
                          have hwi := wire_run (HK11.out.new HBZ.out) HP.out (HKOK.out (i + 1)) g3
                          have hbw := HW11.out.trans (HBZ.out.mono HW11.out.size)
                          have d0 := (hbw.cell (p := ⟨wb, woff + q * 4, none⟩) hwb).trans hc0
                          have d1 := (hbw.cell (p := ⟨wb, woff + q * 4 + 1, none⟩) hwb).trans hc1
                          have hwbz := Nat.lt_of_lt_of_le hwb hbw.size
                          rw [hwA] at x3
                          rw [← HWE.out] at g5
                          obtain ⟨xfr, xto, xk, xd⟩ := x
                          obtain ⟨zw, zi, zl⟩ := z
                          simp only [] at d0 d1 g5
                          unfold WireV at hwi
                          simp only [errV_zero] at hwi
                          obtain ⟨n1, hn1⟩ : ∃ n1, n1 = zi.length := ⟨_, rfl⟩
                          rw [← hn1] at hwi
                          have HWI : Hid (Calls Tryd.prog 39 #[.pointer (some ⟨kb, 0, none⟩), .int .i64 q] wz (WireN wz n1 zi zl)) := hwi
                          have HN1 := hid hn1
                          clear hwi hc0 hc1 hwA hwb hbw hn1
                          go_wp2_with fail
                          refine (HWI.out).mono ?_
                          rintro e w12 ⟨A8, c8, rfl, hr8, hf8, hb12⟩
                          have HB12 := hid (HBZ.out.trans (hb12.mono HBZ.out.size))
                          obtain ⟨w13, hw13⟩ : ∃ w13, w13 = w12.alloc (.cells #[.slice A8 n1 c8, .int .i64 zl] 53) := ⟨_, rfl⟩
                          have hb13 : Below w12.heap.size w12 w13 := by rw [hw13]; exact (Below.refl _ _).alloc (Nat.le_refl _) _
                          have hbz : w13.heap[w12.heap.size]? = some (.cells #[.slice A8 n1 c8, .int .i64 zl] 53 (0, 0)) := by rw [hw13]; exact heap_alloc_new _ _
                          have hz0 := blk_cell hbz 0
                          have hz1 := blk_cell hbz 1
                          simp at hz0 hz1
                          have hzl := blk_lt hbz
                          have hbwz : Below wz.heap.size wz w13 := hb12.trans (hb13.mono hb12.size)
                          replace x3 := (hbwz.cell (p := ⟨w.heap.size, 3, none⟩) hltx).trans x3
                          replace d0 := (hbwz.cell (p := ⟨wb, woff + q * 4, none⟩) hwbz).trans d0
                          replace d1 := (hbwz.cell (p := ⟨wb, woff + q * 4 + 1, none⟩) hwbz).trans d1
                          replace hltx := Nat.lt_of_lt_of_le hltx hbwz.size
                          replace hwbz := Nat.lt_of_lt_of_le hwbz hbwz.size
                          have HB13 := hid (HB12.out.trans (hb13.mono HB12.out.size))
                          have HR8 := hid (hr8.new hb13)
                          clear hb12 hb13 hbz hbwz hr8 hf8
                          by_cases hxf : xfr = who
                          · have e1 : (xfr == who) = true := by simpa using hxf
                            have e2 : (xfr != who) = false := by simpa using hxf
                            clear g1 g2 g3 g4 g5 hxf
                            go_wp2_with fail
                            rw [← hw13]
                            clear hw13
                            go_quiet (fail)
                            go_wp2_with fail
                            go_roundw
                            case rel => exact ⟨q + 1, by omega, by go_num, below_drawn HB13.out _⟩
                            case measure => simp [intOf]; omega
                          · have e1 : (xfr == who) = false := by simpa using hxf
                            have e2 : (xfr != who) = true := by simpa using hxf
                            by_cases hxt : xto = who
                            · have e3 : (xto == who) = true := by simpa using hxt
                              have e4 : (xto != who) = false := by simpa using hxt
                              clear g1 g2 g3 g4 g5 hxf hxt
                              go_wp2_with fail
                              rw [← hw13]
                              clear hw13
                              go_quiet (fail)
                              go_wp2_with fail
                              go_roundw
                              case rel => exact ⟨q + 1, by omega, by go_num, below_drawn HB13.out _⟩
                              case measure => simp [intOf]; omega
                            · have e3 : (xto == who) = false := by simpa using hxt
                              have e4 : (xto != who) = true := by simpa using hxt
                              obtain rfl := g5 hxf hxt
                              obtain ⟨g, hg, hgv⟩ : ∃ g, hs[q]? = some g ∧ g.val = (zi, zl) := by
                                have h := congrArg (fun l => l[q]?) HVK.out
                                simp only [List.getElem?_map, HKE.out, g2, Option.map_some, Option.map_eq_some_iff] at h
                                exact h
                              obtain ⟨gb, goff, rfl, hgb, k0, k1, hga⟩ := HIN11.out.get hg
                              have hdl := HIN11.out.row.le
                              have hga2 := hga.new HB13.out
                              have hsame : ∀ w', Below w13.heap.size w13 w' → Calls Tryd.prog 30 #[.agg #[.slice A8 n1 c8, .int .i64 zl], .agg #[.slice g.A g.items.length g.c, .int .i64 g.lost]] w' fun e w'' => e = .returned (.bool true) ∧ Below w'.heap.size w' w'' := fun w' hb => by
                                have h := held_same ⟨A8, c8, zi, zl⟩ g w' ⟨by have := HR8.out; rw [HN1.out] at this; exact (this.new hb).sl, by have := HR8.out.le.1; rw [HN1.out] at this; exact this, by show zi.length ≤ 1000; have h4 : zi.length ≤ 6 := g4; omega⟩ (hga2.new hb)
                                rw [eqB_true (show Hm.val ⟨A8, c8, zi, zl⟩ = g.val from hgv.symm)] at h
                                have hn := HN1.out
                                simp only [← hn] at h
                                exact h
                              have HSAME := hid hsame
                              have hgb3 := Nat.lt_of_lt_of_le hgb HB13.out.size
                              replace k0 := (HB13.out.cell (p := ⟨gb, goff + q * 2, none⟩) hgb).trans k0
                              replace k1 := (HB13.out.cell (p := ⟨gb, goff + q * 2 + 1, none⟩) hgb).trans k1
                              obtain ⟨GA, Gc, Gi, Gl⟩ := g
                              simp only [] at k0 k1 HSAME
                              generalize Gi.length = gn at k0 HSAME
                              unfold maxLen at hdl
                              have HS0 : Hid (∀ w', Below w13.heap.size w13 w' → w'.cell? ⟨w12.heap.size, 0, none⟩ = some (.slice A8 n1 c8) ∧ w'.cell? ⟨w12.heap.size, 1, none⟩ = some (.int .i64 zl) ∧ w'.cell? ⟨w.heap.size, 3, none⟩ = some (.slice (some ⟨wb, woff, none⟩) nw m.wc) ∧ w'.cell? ⟨wb, woff + q * 4, none⟩ = some (.int .i64 xfr) ∧ w'.cell? ⟨wb, woff + q * 4 + 1, none⟩ = some (.int .i64 xto) ∧ w'.cell? ⟨gb, goff + q * 2, none⟩ = some (.slice GA gn Gc) ∧ w'.cell? ⟨gb, goff + q * 2 + 1, none⟩ = some (.int .i64 Gl)) := fun w' hb =>
                                ⟨(hb.cell (p := ⟨w12.heap.size, 0, none⟩) hzl).trans hz0, (hb.cell (p := ⟨w12.heap.size, 1, none⟩) hzl).trans hz1, (hb.cell (p := ⟨w.heap.size, 3, none⟩) hltx).trans x3, (hb.cell (p := ⟨wb, woff + q * 4, none⟩) hwbz).trans d0, (hb.cell (p := ⟨wb, woff + q * 4 + 1, none⟩) hwbz).trans d1, (hb.cell (p := ⟨gb, goff + q * 2, none⟩) hgb3).trans k0, (hb.cell (p := ⟨gb, goff + q * 2 + 1, none⟩) hgb3).trans k1⟩
                              clear hsame g1 g2 g3 g4 g5 hg hgv hga hga2 hxf hxt
                              go_wp2_with fail
                              rw [← hw13]
                              clear hw13
                              go_region_held3 (fun w' => w'.cell? ⟨w12.heap.size, 0, none⟩ = some (.slice A8 n1 c8) ∧ w'.cell? ⟨w12.heap.size, 1, none⟩ = some (.int .i64 zl) ∧ w'.cell? ⟨w.heap.size, 3, none⟩ = some (.slice (some ⟨wb, woff, none⟩) nw m.wc) ∧ w'.cell? ⟨wb, woff + q * 4, none⟩ = some (.int .i64 xfr) ∧ w'.cell? ⟨wb, woff + q * 4 + 1, none⟩ = some (.int .i64 xto) ∧ w'.cell? ⟨gb, goff + q * 2, none⟩ = some (.slice GA gn Gc) ∧ w'.cell? ⟨gb, goff + q * 2 + 1, none⟩ = some (.int .i64 Gl))
                                (first | (with_reducible exact HS0.out _ HB14.out) | (with_reducible exact HS0.out _ (Below.drew (Below.refl _ _))))
                                (first | (go_at_call 30; refine (HSAME.out _ (Below.refl _ _).drew).mono ?_; rintro e w14 ⟨rfl, hb14⟩; have HB14 := hid ((Below.refl w13.heap.size w13).drew.trans hb14); clear hb14))
                              go_wp2_with fail
                              go_roundw
                              case rel => exact ⟨q + 1, by omega, by go_num, HB13.out.trans (HB14.out.mono HB13.out.size)⟩
                              case measure => simp [intOf]; omega
                        · obtain rfl : nw = q := by omega
                          go_wp2_with fail
                          go_roundw
                          case rel => exact ⟨i + 1, M', by omega, by go_num, HK11.out.new HBZ.out⟩
                          case measure => simp [intOf]; omega
        · have h60 : (100 : Int) ≤ (i : Int) := by omega
          have e60 : decide ((i : Int) < 100) = false := decide_eq_false (by omega)
          clear h100
          go_wp2_with fail
          go_ret
          exact ⟨rfl, HWR.out⟩
      · have h60 : n ≤ (i : Int) := by omega
        have e60 : decide ((i : Int) < n) = false := decide_eq_false (by omega)
        clear hin
        go_wp2_with fail
        go_ret
        exact ⟨rfl, HWR.out⟩
  · have hnew := kern_new_bad w4 m (HF.out.new HW0.out) (HM.out.new HW0.out) he
    have hnr : m.ros.length = nr := HNR.out
    have hns : m.spans.length = ns := HNS.out
    have hnw : m.wires.length = nw := HNW.out
    rw [hnr, hns, hnw, errV_pos he] at hnew
    have HNEW := hid hnew
    clear hnew hnr hns hnw he
    go_wp2_with (go_at_call 33; refine (HNEW.out).mono ?_; rintro e w6 ⟨rfl, hb6⟩)
    go_ret
    exact ⟨rfl, HW0.out.trans (hb6.mono HW0.out.size)⟩
end Go.Proofs.YtnighanlonkjbaaDoor
