/- Package sight: the contract of Of, for a kernel that runs and its own plan. -/
import Derived.Test.YtnmbomhlonifnaaDoorRunU
import Derived.Test.YtnmbomhlonifnaaDoorSightW
import Derived.Test.YtnmbomhlonifnaaDoorSeeLaw
import Derived.IntWalk
namespace Go.Proofs.YtnmbomhlonifnaaDoor
open Go.RowKit
set_option maxRecDepth 100000
attribute [local go_sem ↓] Go.wp_at_zero Go.wp_at_succ

/-- What a room sees, in new memory. -/
def SightOf (w : World) (s : St) (vals : List (List Int × Int)) (e : Ending) (w' : World) : Prop :=
  ∃ A c hs, e = .returned (.tuple #[.agg (stV s), .slice A hs.length c, .nilIface]) ∧ Helds w w' A hs.length c hs ∧ hs.map Hm.val = vals
theorem Tryd.infoHeld2 : (Tryd.prog.info? 130).map (fun i => (i.zero, i.size, i.bytes)) = some (some (.agg #[.slice none 0 0, .int .i64 0]), 2, 32) := by kernel_rfl
theorem sl_held2 {w3 : World} {o : Obj} {A : Option Addr} {n c : Nat} {l : Int} : Sl ((w3.alloc o).alloc (.cells #[.slice A n c, .int .i64 l] 130)) (some ⟨w3.heap.size + 1, 0, none⟩) 2 1 [.slice A n c, .int .i64 l] := by
  have h : ((w3.alloc o).alloc (.cells #[.slice A n c, .int .i64 l] 130)).heap[w3.heap.size + 1]? = some (.cells #[.slice A n c, .int .i64 l] 130 (0, 0)) := by
    rw [hp_alloc, if_pos (by rw [sz_alloc])]
  refine ⟨rfl, fun _ => ⟨_, 0, rfl, blk_lt h, fun j u hu => ?_⟩⟩
  rw [Nat.zero_add, blk_cell h]
  simpa using hu
def WireN2 (w : World) (n : Nat) (items : List Int) (lost : Int) (e : Ending) (w' : World) : Prop :=
  ∃ A cap, e = .returned (.tuple #[.agg #[.slice A n cap, .int .i64 lost], .nilIface]) ∧ Row w' 3 1 A n cap (ints items) ∧ (∀ k, InA A k → w.heap.size ≤ k) ∧ Below w.heap.size w w'
/-- The end: the state is laid, nothing else is touched. -/
theorem Helds.laid {w W wr : World} {A : Option Addr} {n c : Nat} {hs : List Hm} (h : Helds W wr A n c hs) (hb : Below w.heap.size w W) {b : Nat} (hlo : w.heap.size ≤ b) (hhi : b < W.heap.size) (t : St) : Helds w (putAt wr b 0 t) A n c hs := by
  have hk := putAt_keep wr b 0 t
  have hin := h.through hk (fun j hj => by omega)
  refine ⟨⟨hin.row, fun j hj => Nat.le_trans hb.size (h.grow.fresh j hj), ?_⟩, fun g hg => ⟨(hin.each g hg).1, (hin.each g hg).2, fun j hj => Nat.le_trans hb.size ((h.each g hg).2.2 j hj)⟩⟩
  exact Keep.below (F := NoF) ((Keep.of_below NoF (hb.trans (h.grow.below.mono hb.size))).then hk fun j hj hA => by omega) (Nat.le_refl _) (fun j h => h.elim)

set_option maxHeartbeats 4000000 in
theorem sight_of {w0 w : World} {kb : Nat} {p : Pl} {M : KM} {k : Kst} {B : Int} (h : KRun w0 w kb p M k) (m : PM) (hf : Forms w) (hm : PlanAt w m) (hpl : m.pl = p) (he : planChk p = 0) (hk : KOk p k B) {room : Nat} {s : St} (hs : k.rooms[room]? = some s) :
    Calls Tryd.prog 42 #[.pointer (some ⟨kb, 0, none⟩), .agg #[.slice m.A m.ros.length m.c, .int .i64 m.ticks, .slice m.sA m.spans.length m.sc, .slice m.wA m.wires.length m.wc], .int .i64 room] w (SightOf w s (seen room k.lines)) := by
  have hp := planChk_ok he
  have hml : m.ros.length = p.code.length := by rw [← hpl]; simp [PM.pl]
  have hmw : m.wires = p.wires := by rw [← hpl]; rfl
  have hrl := (List.getElem?_eq_some_iff.1 hs).1
  have hrn : room < m.ros.length := by rw [hml, ← hk.rooms]; exact hrl
  have hnw12 := wires_few hp
  rw [← hmw] at hnw12
  have hn5 : m.ros.length ≤ 5 := by rw [hml]; exact hp.most5
  have HCK : Hid (∀ w', Below w.heap.size w w' → Calls Tryd.prog 51 #[.agg #[.slice m.A m.ros.length m.c, .int .i64 m.ticks, .slice m.sA m.spans.length m.sc, .slice m.wA m.wires.length m.wc]] w' fun e w'' => e = .returned .nilIface ∧ Below w'.heap.size w' w'') :=
    fun w' hb => (plan_check m w' (hf.new hb) (hm.new hb)).mono fun e w'' h => by rw [hpl, he, errV_zero] at h; exact h
  have HST : Hid (∀ w', Below w.heap.size w w' → Calls Tryd.prog 50 #[.pointer (some ⟨kb, 0, none⟩), .int .i64 room] w' fun e w'' => e = .returned (.tuple #[.agg (stV s), .nilIface]) ∧ Below w'.heap.size w' w'') :=
    fun w' hb => state_run (h.new hb) hp hk hs
  have HKR : Hid (∀ w', Below w.heap.size w w' → KRun w0 w' kb p M k) := fun w' hb => h.new hb
  have HP := hid hp
  have HKK := hid hk
  have hll : k.lines.length = m.wires.length := by rw [lines_len hk, hmw]
  have HLW : Hid (∀ (i : Nat) (x : Ln), k.lines[i]? = some x → m.wires[i]? = some x.w) := fun i x hx => by rw [hmw, ← hk.lines, List.getElem?_map, hx]; rfl
  have HLOK : Hid (∀ x ∈ k.lines, x.items.length ≤ 6) := fun x hx => (hk.lns x hx).six
  have HWS := hid hm.wires
  have hwc := hm.wiresW
  obtain ⟨hwc1, hwc2, _⟩ := hwc
  unfold maxLen at hwc2
  obtain ⟨n, hn⟩ : ∃ n, m.ros.length = n := ⟨_, rfl⟩
  obtain ⟨ns, hns⟩ : ∃ ns, m.spans.length = ns := ⟨_, rfl⟩
  obtain ⟨nw, hnw⟩ : ∃ nw, m.wires.length = nw := ⟨_, rfl⟩
  rw [hn, hns, hnw] at HCK ⊢
  rw [hn] at hrn hn5
  rw [hnw] at hnw12 hwc1 hll
  have HLL := hid hll
  have HNW := hid hnw
  obtain ⟨A0, c0, ros, tk, sA0, sc0, spans, wA0, wc0, wires⟩ := m
  obtain ⟨pc, s0, s1, s2, s3, s4, s5, f⟩ := s
  unfold stV at HST
  simp only [] at HCK HWS HLW hwc1 hwc2 HNW ⊢
  have d1 : decide (n ≤ room) = false := decide_eq_false (by omega)
  have d3 : decide ((n : Int) ≤ (room : Int)) = false := decide_eq_false (by omega)
  obtain ⟨i1, hi1, hy0, hy1, hy2⟩ := info_parts Tryd.infoHeld2
  clear h hf hm hpl he hk hs hp hml hmw hrl hll hn hns hnw
  go_enter Tryd.func42, Tryd.ntmps42
  go_wp2_with fail
  refine (HCK.out _ (((Below.refl _ _).alloc (Nat.le_refl _) _).alloc (by simp) _)).mono ?_
  rintro e w1 ⟨rfl, hb1⟩
  have hout := (hb1.block (w.heap.size + 1) (by simp)).trans (show _ = some (.cells #[.int .i64 0, .int .i64 0, .int .i64 0, .int .i64 0, .int .i64 0, .int .i64 0, .int .i64 0, .bool false] 43 (0, 0)) by rw [hp_alloc, if_pos (by simp)])
  have hbox := (hb1.block w.heap.size (by simp; omega)).trans (show _ = some (.cells #[.slice A0 n c0, .int .i64 tk, .slice sA0 ns sc0, .slice wA0 nw wc0] 31 (0, 0)) by rw [blk_alloc (by simp)]; exact heap_alloc_new _ _)
  have HBW1 : Hid (Below w.heap.size w w1) := (((Below.refl _ _).alloc (Nat.le_refl _) _).alloc (by simp) _).trans (hb1.mono (by simp; omega))
  have HOUT := hid hout
  have HBOX := hid hbox
  clear hb1 hout hbox
  go_wp2_with fail
  refine (HST.out _ HBW1.out).mono ?_
  rintro e w2 ⟨rfl, hb2⟩
  have hbox := (hb2.block _ (blk_lt HBOX.out)).trans HBOX.out
  have hout := (hb2.block _ (blk_lt HOUT.out)).trans HOUT.out
  have HBW2 := hid (HBW1.out.trans (hb2.mono HBW1.out.size))
  have p0 := blk_cell hbox 0
  have p3 := blk_cell hbox 3
  have hltp := blk_lt hbox
  simp at p0 p3
  have HBOX2 := hid hbox
  have HOUT2 := hid hout
  clear hb2 hbox hout HBOX HOUT
  go_wp2_with fail
  obtain ⟨W, hW⟩ : ∃ W, W = w2.alloc (.cells #[.int .i64 pc, .int .i64 s0, .int .i64 s1, .int .i64 s2, .int .i64 s3, .int .i64 s4, .int .i64 s5, .bool f] 43) := ⟨_, rfl⟩
  have hbW : Below w2.heap.size w2 W := by rw [hW]; exact (Below.refl _ _).alloc (Nat.le_refl _) _
  have hst : W.heap[w2.heap.size]? = some (.cells #[.int .i64 pc, .int .i64 s0, .int .i64 s1, .int .i64 s2, .int .i64 s3, .int .i64 s4, .int .i64 s5, .bool f] 43 (0, 0)) := by rw [hW]; exact heap_alloc_new _ _
  rw [← hW]
  have HSTB := hid hst
  have HOUTW := hid ((hbW.block _ (blk_lt HOUT2.out)).trans HOUT2.out)
  have HBW := hid (HBW2.out.trans (hbW.mono HBW2.out.size))
  have hltW := blk_lt HOUTW.out
  clear hW hbW hst p0 p3 hltp HBOX2 HOUT2
  go_loopw [43, 12, 13, 14, 15, 16] (fun v43 v12 v13 v14 v15 v16 wr => ∃ (i : Nat) (A : Option Addr) (c : Nat) (hs : List Hm), i ≤ nw ∧ v43 = .int .i64 i ∧ v12 = .slice A hs.length c ∧ Helds W wr A hs.length c hs ∧ hs.map Hm.val = seen room (k.lines.take i) ∧ hs.length ≤ i) (fun v43 _ _ _ _ _ _ => nw - (intOf v43).toNat)
  case atStart => exact ⟨0, none, 0, [], by omega, rfl, rfl, Helds.nil (Below.refl _ _), rfl, by simp⟩
  case round =>
    obtain ⟨i, A, c, hs, hi, rfl, rfl, hhs, hval, hlen⟩ := hrel
    have HHS := hid hhs
    have HVAL := hid hval
    have HBR := hid (HBW.out.trans (hhs.grow.below.mono HBW.out.size))
    clear hhs hval
    obtain ⟨nh, hnh⟩ : ∃ nh, nh = hs.length := ⟨_, rfl⟩
    rw [← hnh] at hlen ⊢
    have HNH := hid hnh
    clear hnh
    by_cases hin : i < nw
    · have hlk : i < k.lines.length := by rw [HLL.out]; exact hin
      have hg := List.getElem?_eq_getElem hlk
      have HTKE := hid (List.take_succ_eq_append_getElem hlk)
      have HWI := hid (HLW.out i _ hg)
      have hwi := fun (w' : World) (hb' : Below wr.heap.size wr w') => wire_run ((HKR.out _ HBR.out).new hb') HP.out HKK.out hg
      have HSIX := hid (HLOK.out _ (List.getElem_mem hlk))
      generalize k.lines[i] = x at HTKE HWI hwi HSIX
      obtain ⟨wb, woff, hwA, hwb, g0, g1, g2, g3⟩ := HWS.out.wire HBR.out (show i < wires.length by rw [HNW.out]; exact hin) (by rw [HNW.out]; exact hin)
      have hxw : wires[i]'(by rw [HNW.out]; exact hin) = x.w := by
        have h := HWI.out
        rw [List.getElem?_eq_getElem (by rw [HNW.out]; exact hin)] at h
        exact Option.some.inj h
      rw [hxw] at g0 g1 g2 g3
      subst hwA
      have hltb := Nat.lt_of_lt_of_le hwb HBR.out.size
      obtain ⟨⟨xfr, xto, xk, xd⟩, xi, xl⟩ := x
      simp only [] at g0 g1 g2 g3
      unfold WireV at hwi
      simp only [errV_zero] at hwi
      obtain ⟨n1, hn1⟩ : ∃ n1, n1 = xi.length := ⟨_, rfl⟩
      simp only [← hn1] at hwi
      have HWV : Hid (∀ w', Below wr.heap.size wr w' → Calls Tryd.prog 77 #[.pointer (some ⟨kb, 0, none⟩), .int .i64 i] w' (WireN2 w' n1 xi xl)) := hwi
      have HN1 := hid hn1
      clear hwi hn1 hxw hlk hg
      by_cases hto : xfr = room ∨ xto = room
      · have htt : touches room ⟨⟨xfr, xto, xk, xd⟩, xi, xl⟩ = true := decide_eq_true hto
        have HTT := hid htt
        have hcases : ((xfr == (room : Int)) = true ∧ (xfr != (room : Int)) = false) ∨ ((xfr == (room : Int)) = false ∧ (xfr != (room : Int)) = true ∧ (xto == (room : Int)) = true ∧ (xto != (room : Int)) = false) := by
          by_cases h1 : xfr = room
          · left; simp [h1]
          · right; have h2 : xto = room := by omega
            simp [h1, h2]
            try exact fun h3 => h1 (by rw [← h3])
        clear hto htt
        rcases hcases with ⟨e1, e2⟩ | ⟨e1, e2, e3, e4⟩
        all_goals
          go_wp2_with fail
          have hba : Below wr.heap.size wr (wr.alloc (.cells #[.int .i64 xfr, .int .i64 xto, .int .i64 xk, .int .i64 xd] 114)) := (Below.refl _ _).alloc (Nat.le_refl _) _
          refine (HWV.out _ hba).mono ?_
          rintro e w8 ⟨A8, c8, rfl, hr8, hf8, hb8⟩
          have HB8 := hid (hba.trans (hb8.mono hba.size))
          have HR8 := hid hr8
          have HF8 : Hid (∀ k, InA A8 k → wr.heap.size ≤ k) := fun k hk => Nat.le_trans hba.size (hf8 k hk)
          clear hb8 hr8 hf8 hba
          go_wp2_with (at_builtin; refine wpList_append_row _ rfl _ _ 94 rfl 130 i1 _ 2 32 Tryd.underlying94 hi1 hy0 hy1 hy2 rfl (by decide) A nh c (hs.flatMap Hm.cells) rfl ?c0 (some ⟨w8.heap.size + 1, 0, none⟩) 1 1 [.slice A8 n1 c8, .int .i64 xl] rfl ?c1 ?c2 ?c3 ?c4 ?_)
          case c0 => rw [HNH.out]; exact HHS.out.grow.row.keep fun j _ hl => by rw [blk_alloc (by rw [sz_alloc]; have := HB8.out.size; omega), blk_alloc (by have := HB8.out.size; omega)]; exact HB8.out.block j hl
          case c1 => exact sl_held2
          case c2 => exact fun u hu => by simp at hu; rcases hu with rfl | rfl <;> rfl
          case c3 => unfold maxLen; omega
          case c4 => omega
          intro A' cap' w9 hrow9 hkeep9 hin9
          have HG9 : Hid (Helds W w9 A' (hs ++ [(⟨A8, c8, xi, xl⟩ : Hm)]).length cap' (hs ++ [(⟨A8, c8, xi, xl⟩ : Hm)])) := by
            have hr8 := HR8.out
            rw [HN1.out] at hr8 hrow9
            rw [HNH.out] at hrow9
            rw [List.length_append]
            exact HHS.out.more HB8.out hr8 HSIX.out HF8.out (((Below.refl _ _).alloc (Nat.le_refl _) _).alloc (by simp) _) hrow9 hkeep9 (fun k hk => (hin9 k hk).imp_right (fun h => by rw [sz_alloc, sz_alloc]; exact h))
          have hl1 : nh + 1 = (hs ++ [(⟨A8, c8, xi, xl⟩ : Hm)]).length := by rw [List.length_append, ← HNH.out]; rfl
          have HL1 := hid hl1
          clear hrow9 hkeep9 hin9 hl1
          go_wp2_with fail
          go_roundw
          case rel => exact ⟨i + 1, A', cap', hs ++ [⟨A8, c8, xi, xl⟩], by omega, by go_num, by rw [← HL1.out], HG9.out, by rw [HTKE.out, seen_snoc, HTT.out, List.map_append, HVAL.out]; simp [Hm.val], by rw [← HL1.out]; omega⟩
          case measure => simp [intOf]; omega
      · have htt : touches room ⟨⟨xfr, xto, xk, xd⟩, xi, xl⟩ = false := decide_eq_false hto
        have e1 : (xfr == (room : Int)) = false := by simp; omega
        have e2 : (xfr != (room : Int)) = true := by simp; omega
        have e3 : (xto == (room : Int)) = false := by simp; omega
        have e4 : (xto != (room : Int)) = true := by simp; omega
        have HTT := hid htt
        clear hto htt
        go_wp2_with fail
        go_roundw
        case rel => exact ⟨i + 1, A, c, hs, by omega, by go_num, by rw [← HNH.out], HHS.out.new ((Below.refl _ _).alloc (Nat.le_refl _) _), by rw [HTKE.out, seen_snoc, HTT.out, HVAL.out]; simp, by rw [← HNH.out]; omega⟩
        case measure => simp [intOf]; omega
    · obtain rfl : nw = i := by omega
      have hst := (HHS.out.grow.below.block _ (blk_lt HSTB.out)).trans HSTB.out
      have hot := (HHS.out.grow.below.block _ (blk_lt HOUTW.out)).trans HOUTW.out
      have a0 := blk_cell hst 0
      have a1 := blk_cell hst 1
      have a2 := blk_cell hst 2
      have a3 := blk_cell hst 3
      have a4 := blk_cell hst 4
      have a5 := blk_cell hst 5
      have a6 := blk_cell hst 6
      have a7 := blk_cell hst 7
      have b0 := blk_cell hot 0
      have b1 := blk_cell hot 1
      have b2 := blk_cell hot 2
      have b3 := blk_cell hot 3
      have b4 := blk_cell hot 4
      have b5 := blk_cell hot 5
      have b6 := blk_cell hot 6
      have b7 := blk_cell hot 7
      have bf := fun j => blk_free hot j
      have hla := blk_lt hst
      have hlb := blk_lt hot
      simp at a0 a1 a2 a3 a4 a5 a6 a7 b0 b1 b2 b3 b4 b5 b6 b7
      have HVK : Hid (hs.map Hm.val = seen room k.lines) := by
        have h := HVAL.out
        rw [List.take_of_length_le (by rw [HLL.out]; omega)] at h
        exact h
      have HD := hid (HHS.out.laid HBW.out (b := w.heap.size + 1) (by omega) hltW ⟨pc, s0, s1, s2, s3, s4, s5, f⟩)
      have hz : (putAt wr (w.heap.size + 1) 0 ⟨pc, s0, s1, s2, s3, s4, s5, f⟩).heap[w.heap.size + 1]? = some (.cells #[.int .i64 pc, .int .i64 s0, .int .i64 s1, .int .i64 s2, .int .i64 s3, .int .i64 s4, .int .i64 s5, .bool f] 43 (0, 0)) := by
        unfold putAt
        simp [hp_set, hot, setObj]
      clear hst hot
      go_wp2_with fail
      obtain ⟨wz, hwz⟩ : ∃ wz, wz = putAt wr (w.heap.size + 1) 0 ⟨pc, s0, s1, s2, s3, s4, s5, f⟩ := ⟨_, rfl⟩
      rw [← hwz] at hz HD
      unfold putAt at hwz
      simp only [Nat.zero_add] at hwz
      rw [← hwz]
      have z0 := blk_cell hz 0
      have z1 := blk_cell hz 1
      have z2 := blk_cell hz 2
      have z3 := blk_cell hz 3
      have z4 := blk_cell hz 4
      have z5 := blk_cell hz 5
      have z6 := blk_cell hz 6
      have z7 := blk_cell hz 7
      simp at z0 z1 z2 z3 z4 z5 z6 z7
      exact bodyPost_ret (v := .tuple #[.agg #[.int .i64 pc, .int .i64 s0, .int .i64 s1, .int .i64 s2, .int .i64 s3, .int .i64 s4, .int .i64 s5, .bool f], .slice A nh c, .nilIface]) (by simp [results, Tryd.results42, go_sem, z0, z1, z2, z3, z4, z5, z6, z7]) rfl ⟨A, c, hs, by rw [HNH.out]; rfl, HD.out, HVK.out⟩
end Go.Proofs.YtnmbomhlonifnaaDoor
