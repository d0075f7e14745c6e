/- The walk of framelaw3.SpreadSame: it returns true at every input. -/
import Derived.Test.YtongkiccglaniaaDoorSpreadGet
import Derived.Test.YtongkiccglaniaaDoorSameU
import Derived.Test.YtongkiccglaniaaDoorRunU
namespace Go.Proofs.YtongkiccglaniaaDoor
open Go.RowKit
set_option maxRecDepth 100000

/-- A room that sets a cell, and has each tick. -/
def setPl : Pl := ⟨[[⟨1, 2, 7⟩]], 1, [⟨0, 1, 0⟩], []⟩
theorem set_chk : planChk setPl = 0 := by decide
theorem set_ev : (tick setPl (kNew setPl)).1 = ⟨0, 0, 0, 0⟩ := rfl
theorem set_st : stateOf (tick setPl (kNew setPl)).2 0 = (⟨0, 0, 0, 7, 0, 0, 0, false⟩, 0) := rfl
theorem spread_set {w : World} (hf : Forms w) (s : Nat) (hz : w.heap.size = s) {w3 : World} (hw3 : w3 = ((w.alloc (.cells #[.int .i64 1, .int .i64 2, .int .i64 7] 45)).alloc (.cells #[.slice (some ⟨s, 0, none⟩) 1 1] 46)).alloc (.cells #[.int .i64 0, .int .i64 1, .int .i64 0] 68)) :
    Calls Tryd.prog 25 #[.agg #[.slice (some ⟨s + 1, 0, none⟩) 1 1, .int .i64 1, .slice (some ⟨s + 1 + 1, 0, none⟩) 1 1, .slice none 0 0]] w3 (SNew w3 setPl) ∧ Below w.heap.size w w3 := by
  have hblk : w3.heap[s]? = some (.cells #[.int .i64 1, .int .i64 2, .int .i64 7] 45 (0, 0)) ∧ w3.heap[s + 1]? = some (.cells #[.slice (some ⟨s, 0, none⟩) 1 1] 46 (0, 0)) ∧ w3.heap[s + 1 + 1]? = some (.cells #[.int .i64 0, .int .i64 1, .int .i64 0] 68 (0, 0)) := by
    rw [hw3]
    simp only [hp_alloc, sz_alloc, hz]
    refine ⟨?_, ?_, ?_⟩
    all_goals (repeat (first | rw [if_pos True.intro] | rw [if_pos rfl] | rw [if_neg (by omega)]))
  have hb : Below w.heap.size w w3 := by rw [hw3]; exact (((Below.refl _ _).alloc (Nat.le_refl _) _).alloc (by simp) _).alloc (by simp; omega) _
  obtain ⟨b0, b1, b2⟩ := hblk
  refine ⟨spread_good (m := onePM s (s + 1) (s + 1 + 1) [⟨1, 2, 7⟩] 1 [⟨0, 1, 0⟩]) (hf.new hb) (one_plan b0 b1 b2 (by decide) (by decide) (by decide) (fun o ho => ?_) (fun y hy => ?_)) set_chk, hb⟩
  · simp at ho; subst ho
    refine ⟨⟨?_, ?_⟩, ⟨?_, ?_⟩, ⟨?_, ?_⟩⟩ <;> decide
  · simp at hy; subst hy
    refine ⟨⟨?_, ?_⟩, ⟨?_, ?_⟩, ⟨?_, ?_⟩⟩ <;> decide
theorem state_at {k : Kst} {R : Nat} {s : St} (h : k.rooms[R]? = some s) : stateOf k (R : Int) = (s, 0) := by
  have hl := (List.getElem?_eq_some_iff.1 h).1
  unfold stateOf inB
  rw [if_pos (decide_eq_true (by omega)), Int.toNat_natCast, List.getD_eq_getElem?_getD, h]; rfl
theorem wire_at {k : Kst} {R : Nat} {x : Ln} (h : k.lines[R]? = some x) : wireOf k (R : Int) = ((x.items, x.lost), 0) := by
  have hl := (List.getElem?_eq_some_iff.1 h).1
  unfold wireOf inB
  rw [if_pos (decide_eq_true (by omega)), Int.toNat_natCast, List.getD_eq_getElem?_getD, h]; rfl
def HeldN (w : World) (n : Nat) (items : List Int) (lost : Int) (e : Ending) (w' : World) : Prop :=
  ∃ A cap, e = .returned (.tuple #[.agg #[.slice A n cap, .int .i64 lost], .nilIface]) ∧ Row w' 3 1 A n cap (ints items) ∧ (∀ k, InA A k → w.heap.size ≤ k) ∧ Below w.heap.size w w'

set_option maxHeartbeats 8000000 in
theorem spreadSame_walk {w : World} (hf : Forms w) (m : PM) (hm : PlanAt w m) (n : Int) :
    Calls Tryd.prog 7 #[.agg #[.slice m.A m.ros.length m.c, .int .i64 m.ticks, .slice m.sA m.spans.length m.sc, .slice m.wA m.wires.length m.wc], .int .i64 n] w fun e w' => e = .returned (.bool true) ∧ Below w.heap.size w w' := by
  have HF := hid hf
  have HM := hid hm
  obtain ⟨w1, hw1⟩ : ∃ w1, w1 = w.alloc (.cells #[.slice m.A m.ros.length m.c, .int .i64 m.ticks, .slice m.sA m.spans.length m.sc, .slice m.wA m.wires.length m.wc] 31) := ⟨_, rfl⟩
  have hb1 : Below w.heap.size w w1 := by rw [hw1]; exact (Below.refl _ _).alloc (Nat.le_refl _) _
  have hbox : w1.heap[w.heap.size]? = some (.cells #[.slice m.A m.ros.length m.c, .int .i64 m.ticks, .slice m.sA m.spans.length m.sc, .slice m.wA m.wires.length m.wc] 31 (0, 0)) := by rw [hw1]; exact heap_alloc_new w _
  have hsz1 : w1.heap.size = w.heap.size + 1 := by rw [hw1]; simp
  obtain ⟨w2, hw2⟩ : ∃ w2, w2 = ((w1.alloc (.cells #[.int .i64 1, .int .i64 2, .int .i64 7] 45)).alloc (.cells #[.slice (some ⟨w.heap.size + 1, 0, none⟩) 1 1] 46)).alloc (.cells #[.int .i64 0, .int .i64 1, .int .i64 0] 68) := ⟨_, rfl⟩
  obtain ⟨hnew, hb2⟩ := spread_set (HF.out.new hb1) (w.heap.size + 1) hsz1 hw2
  unfold SNew at hnew
  obtain ⟨nn, hnn⟩ : ∃ nn, m.ros.length = nn := ⟨_, rfl⟩
  obtain ⟨ns, hns⟩ : ∃ ns, m.spans.length = ns := ⟨_, rfl⟩
  obtain ⟨nw, hnw⟩ : ∃ nw, m.wires.length = nw := ⟨_, rfl⟩
  rw [hnn, hns, hnw] at hw1 hbox ⊢
  have HNN := hid hnn
  have HNS := hid hns
  have HNW := hid hnw
  have HB2 := hid (hb1.trans (hb2.mono hb1.size))
  have HBX := hid ((hb2.block _ (blk_lt hbox)).trans hbox)
  have HNEW := hid hnew
  clear hf hm hb1 hbox hsz1 hb2 hnew hnn hns hnw
  go_enter Tryd.func7, Tryd.ntmps7
  go_wp2_with fail
  rw [← hw1, ← hw2]
  clear hw1 hw2
  refine HNEW.out.mono ?_
  rintro e w3 ⟨ob, OS, rfl, hst, _⟩
  have HST := hid hst
  clear hst HNEW
  go_wp2_with fail
  have htk := stick_stand (i := 0) HST.out rfl (HF.out.new HB2.out) (planChk_ok set_chk) (kNew_ok (planChk_ok set_chk)) (by decide)
  rw [set_ev] at htk
  refine htk.mono ?_
  clear htk
  rintro e w4 ⟨OS', rfl, hst⟩
  simp only []
  have HST4 : Hid (Stand w2 (w4.alloc (.cells #[.int .i64 0, .int .i64 0, .int .i64 0, .int .i64 0] 34)) [spreadT ob setPl OS' (tick setPl (kNew setPl)).2, conT w4.heap.size (.cells #[.int .i64 0, .int .i64 0, .int .i64 0, .int .i64 0] 34)]) := hst.lay #[.int .i64 0, .int .i64 0, .int .i64 0, .int .i64 0] 34
  clear hst HST
  go_wp2_with fail
  have hsv := sstate_any (HST4.out.get (i := 0) rfl).here (by decide) 0
  rw [set_st] at hsv
  unfold StateV stV at hsv
  simp only [errV_zero] at hsv
  refine hsv.mono ?_
  clear hsv
  rintro e w5 ⟨rfl, hb5⟩
  have HST5 := hid ((HST4.out.new hb5).lay #[.int .i64 0, .int .i64 0, .int .i64 0, .int .i64 7, .int .i64 0, .int .i64 0, .int .i64 0, .bool false] 40)
  clear hb5 HST4
  go_upto_region 6 with fail
  have e1 : (w5.alloc (.cells #[.int .i64 0, .int .i64 0, .int .i64 0, .int .i64 7, .int .i64 0, .int .i64 0, .int .i64 0, .bool false] 40)).heap[w4.heap.size]? = some (.cells #[.int .i64 0, .int .i64 0, .int .i64 0, .int .i64 0] 34 (0, 0)) := (HST5.out.get (i := 1) rfl).here
  have e2 : (w5.alloc (.cells #[.int .i64 0, .int .i64 0, .int .i64 0, .int .i64 7, .int .i64 0, .int .i64 0, .int .i64 0, .bool false] 40)).heap[w5.heap.size]? = some (.cells #[.int .i64 0, .int .i64 0, .int .i64 0, .int .i64 7, .int .i64 0, .int .i64 0, .int .i64 0, .bool false] 40 (0, 0)) := (HST5.out.get (i := 2) rfl).here
  obtain ⟨w6, hw6⟩ : ∃ w6, w6 = w5.alloc (.cells #[.int .i64 0, .int .i64 0, .int .i64 0, .int .i64 7, .int .i64 0, .int .i64 0, .int .i64 0, .bool false] 40) := ⟨_, rfl⟩
  rw [← hw6] at HST5 e1 e2 ⊢
  clear hw6
  have HB6 := hid (HB2.out.trans (HST5.out.below.mono HB2.out.size))
  have HX6 := hid ((HST5.out.below.block _ (blk_lt HBX.out)).trans HBX.out)
  have HXS : Hid (∀ w', Below w6.heap.size w6 w' → w'.cell? ⟨w.heap.size, 0, none⟩ = some (.slice m.A nn m.c) ∧ w'.cell? ⟨w.heap.size, 1, none⟩ = some (.int .i64 m.ticks) ∧ w'.cell? ⟨w.heap.size, 2, none⟩ = some (.slice m.sA ns m.sc) ∧ w'.cell? ⟨w.heap.size, 3, none⟩ = some (.slice m.wA nw m.wc) ∧ w.heap.size < w'.heap.size) := fun w' hb => by
    have h := (hb.block _ (blk_lt HX6.out)).trans HX6.out
    exact ⟨blk_cell h 0, blk_cell h 1, blk_cell h 2, blk_cell h 3, blk_lt h⟩
  obtain ⟨x0, x1, x2, x3, hlx⟩ := HXS.out _ (Below.refl _ _)
  have y1 := blk_cell e1 1
  have y3 := blk_cell e2 3
  have l1 := blk_lt e1
  have l2 := blk_lt e2
  simp at y1 y3
  clear e1 e2 HST5 HB2 HBX HX6
  go_wp2_with fail
  clear y1 y3 l1 l2
  by_cases he : planChk m.pl = 0
  · have hnew := spread_good (HF.out.new HB6.out) (HM.out.new HB6.out) he
    unfold SNew at hnew
    rw [HNN.out, HNS.out, HNW.out] at hnew
    refine hnew.mono ?_
    clear hnew
    rintro e w7 ⟨sb, S, rfl, hst7, _⟩
    have HS7 := hid hst7
    have HB7 := hid (HB6.out.trans (hst7.below.mono HB6.out.size))
    clear hst7 x0 x1 x2 x3 hlx
    obtain ⟨x0, x1, x2, x3, hlx⟩ := HXS.out _ HS7.out.below
    have hk := new_run w7 m (HF.out.new HB7.out) (HM.out.new HB7.out) he
    unfold KNew at hk
    rw [HNN.out, HNS.out, HNW.out] at hk
    go_wp2_with fail
    refine hk.mono ?_
    clear hk
    rintro e w8 ⟨kb, M, rfl, hr8⟩
    have hst8 := HS7.out.add (t := kT 152 201 145 kb m.pl M (runK m.pl 0)) hr8.below (k_lie hr8.kat hr8.plan) (fun j hj => hr8.fresh j (.inl hj)) (fun j hj => .inl (hr8.fresh j hj))
    have HS8 : Hid (Stand w6 w8 [spreadT sb m.pl S (runK m.pl 0), kT 152 201 145 kb m.pl M (runK m.pl 0)]) := hst8
    have HP := hid (planChk_ok he)
    have HLC : Hid (m.pl.code.length = nn) := by show m.pl.code.length = nn; rw [← HNN.out]; simp [PM.pl]
    have HLW : Hid (m.pl.wires.length = nw) := HNW.out
    have hnn5 : nn ≤ 5 := by have := HP.out.most5; rw [HLC.out] at this; exact this
    have hnw12 : nw ≤ 12 := by have := wires_few HP.out; rw [HLW.out] at this; exact this
    clear hst8 hr8 HS7 HB7 x0 x1 x2 x3 hlx he
    go_wp2_with fail
    go_loopw [14] (fun v14 wr => ∃ (i : Nat) (S : SM) (M : KM), i ≤ 150 ∧ v14 = .int .i64 i ∧ Stand w6 wr [spreadT sb m.pl S (runK m.pl i), kT 152 201 145 kb m.pl M (runK m.pl i)]) (fun v14 _ => 150 - (intOf v14).toNat)
    case atStart => exact ⟨0, S, M, by omega, rfl, HS8.out⟩
    case round =>
      obtain ⟨wo, rfl⟩ : ∃ wo : World, wo = wr := ⟨_, rfl⟩
      obtain ⟨i, S, M, hi, rfl, hst⟩ := hrel
      have HSR := hid hst
      have HBO := hid (HB6.out.trans (hst.below.mono HB6.out.size))
      clear hst
      by_cases hin : (i : Int) < n ∧ i < 150
      · obtain ⟨hin, h150⟩ := hin
        have h150' : (i : Int) < 150 := by omega
        have htk := stick_stand (i := 0) HSR.out rfl (HF.out.new HB6.out) HP.out (runK_ok HP.out i) (by omega)
        obtain ⟨q, hq⟩ : ∃ q, q = tick m.pl (runK m.pl i) := ⟨_, rfl⟩
        have hq2 : q.2 = runK m.pl (i + 1) := by rw [hq]; rfl
        have HKT : Hid (∀ (w' : World) (M' : KM), KAt 152 201 145 w' kb M' (runK m.pl i) → M'.P.pl = m.pl → Calls Tryd.prog 29 #[.pointer (some ⟨kb, 0, none⟩)] w' (KTicked 152 201 145 w' kb M' q)) := fun w' M' h1 h2 => by
          rw [hq]; exact ktick_any w' kb M' (runK m.pl i) m.pl i HP.out h2 (runK_ok HP.out i) (by omega) h1
        rw [← hq] at htk
        obtain ⟨⟨tk, rm, pc, wh⟩, k'⟩ := q
        simp only [] at hq2 htk
        subst hq2
        unfold KTicked at HKT
        simp only [] at HKT
        have hne : ∀ w, (binOp .neq 34 (.agg #[.int .i64 tk, .int .i64 rm, .int .i64 pc, .int .i64 wh]) (.agg #[.int .i64 tk, .int .i64 rm, .int .i64 pc, .int .i64 wh])).run Tryd.prog w = .ok (.bool false) w := fun w => event_neq ⟨tk, rm, pc, wh⟩ w
        have hge := event_guard
        clear hq
        go_wp2_with fail
        refine htk.mono ?_
        clear htk
        rintro e w9 ⟨S', rfl, hst⟩
        have HS9 : Hid (Stand w6 w9 [spreadT sb m.pl S' (runK m.pl (i + 1)), kT 152 201 145 kb m.pl M (runK m.pl i)]) := hst
        clear hst
        go_wp2_with fail
        have hkk := (HS9.out.get (i := 1) rfl).here
        refine (HKT.out _ M hkk.1 hkk.2).mono ?_
        clear hkk
        rintro e w10 ⟨M', rfl, h1, h2, h3, h4⟩
        have HS10 : Hid (Stand w6 w10 [spreadT sb m.pl S' (runK m.pl (i + 1)), kT 152 201 145 kb m.pl M' (runK m.pl (i + 1))]) := HS9.out.go 1 rfl (k_went (HS9.out.get (i := 1) rfl) h1 h2 h3 h4)
        clear h1 h2 h3 h4 HS9 HSR HKT
        go_wp2_with fail
        clear hne hge
        have HOK := hid (runK_ok HP.out (i + 1))
        have HR5 : Hid ((runK m.pl (i + 1)).rooms.length ≤ 5) := by show (runK m.pl (i + 1)).rooms.length ≤ 5; rw [HOK.out.rooms]; exact HP.out.most5
        have HRN : Hid ((runK m.pl (i + 1)).rooms.length = nn) := by show (runK m.pl (i + 1)).rooms.length = nn; rw [HOK.out.rooms, HLC.out]
        have HL12 : Hid ((runK m.pl (i + 1)).lines.length ≤ 12) := by show (runK m.pl (i + 1)).lines.length ≤ 12; rw [lines_len HOK.out]; exact wires_few HP.out
        have HLN : Hid ((runK m.pl (i + 1)).lines.length = nw) := by show (runK m.pl (i + 1)).lines.length = nw; rw [lines_len HOK.out, HLW.out]
        go_loopw [15] (fun v15 wq => ∃ r : Nat, r ≤ nn ∧ v15 = .int .i64 r ∧ Below w10.heap.size w10 wq) (fun v15 _ => nn - (intOf v15).toNat)
        case atStart => exact ⟨0, by omega, rfl, Below.refl _ _⟩
        case round =>
          obtain ⟨wq, rfl⟩ : ∃ wq : World, wq = wr := ⟨_, rfl⟩
          obtain ⟨r, hr, rfl, hbq⟩ := hrel
          have HBQ := hid hbq
          have HSQ := hid (HS10.out.new hbq)
          clear hbq
          obtain ⟨x0, _, _, _, hlx⟩ := HXS.out _ HSQ.out.below
          by_cases hrn : r < nn
          · obtain ⟨s, hs⟩ : ∃ s, (runK m.pl (i + 1)).rooms[r]? = some s := ⟨_, List.getElem?_eq_getElem (by rw [HRN.out]; exact hrn)⟩
            have hc1 := sstate_any (HSQ.out.get (i := 0) rfl).here HR5.out (r : Int)
            have HC2 : Hid (∀ w', Below wq.heap.size wq w' → Calls Tryd.prog 30 #[.pointer (some ⟨kb, 0, none⟩), .int .i64 r] w' (StateV w' (s, 0))) := fun w' hb => by
              have h := kstate_any (r : Int) HR5.out ((HSQ.out.new hb).get (i := 1) rfl).here.1
              rw [state_at hs] at h
              exact h
            rw [state_at hs] at hc1
            have hsn : ∀ w, (binOp .neq 40 (.agg #[.int .i64 s.pc, .int .i64 s.c0, .int .i64 s.c1, .int .i64 s.c2, .int .i64 s.c3, .int .i64 s.c4, .int .i64 s.c5, .bool s.failed]) (.agg #[.int .i64 s.pc, .int .i64 s.c0, .int .i64 s.c1, .int .i64 s.c2, .int .i64 s.c3, .int .i64 s.c4, .int .i64 s.c5, .bool s.failed])).run Tryd.prog w = .ok (.bool false) w := fun w => by
              have := state_neq s s w
              rw [stEq_refl] at this; exact this
            have hgs := state_guard
            clear hs
            obtain ⟨p0, s0, s1, s2, s3, s4, s5, sf⟩ := s
            unfold StateV stV at hc1 HC2
            simp only [errV_zero] at hc1 HC2 hsn
            go_wp2_with fail
            refine hc1.mono ?_
            clear hc1
            rintro e w11 ⟨rfl, hb11⟩
            have HB11 := hid (hb11.alloc hb11.size (.cells #[.int .i64 p0, .int .i64 s0, .int .i64 s1, .int .i64 s2, .int .i64 s3, .int .i64 s4, .int .i64 s5, .bool sf] 40))
            have HX11 := hid (heap_alloc_new w11 (.cells #[.int .i64 p0, .int .i64 s0, .int .i64 s1, .int .i64 s2, .int .i64 s3, .int .i64 s4, .int .i64 s5, .bool sf] 40))
            clear hb11 x0 hlx
            go_wp2_with fail
            refine (HC2.out _ HB11.out).mono ?_
            rintro e w12 ⟨rfl, hb12⟩
            have h11 := (hb12.block _ (blk_lt HX11.out)).trans HX11.out
            have u0 := blk_cell h11 0
            have u1 := blk_cell h11 1
            have u2 := blk_cell h11 2
            have u3 := blk_cell h11 3
            have u4 := blk_cell h11 4
            have u5 := blk_cell h11 5
            have u6 := blk_cell h11 6
            have u7 := blk_cell h11 7
            have ul := blk_lt h11
            simp at u0 u1 u2 u3 u4 u5 u6 u7
            have HB12 := hid ((HB11.out.trans (hb12.mono HB11.out.size)).alloc (HB11.out.trans (hb12.mono HB11.out.size)).size (.cells #[.int .i64 p0, .int .i64 s0, .int .i64 s1, .int .i64 s2, .int .i64 s3, .int .i64 s4, .int .i64 s5, .bool sf] 40))
            clear h11 hb12 HX11 HB11
            go_wp2_with fail
            go_roundw
            case rel => exact ⟨r + 1, by omega, by go_num, HBQ.out.trans (HB12.out.mono HBQ.out.size)⟩
            case measure => simp [intOf]; omega
          · obtain rfl : r = nn := by omega
            go_wp2_with fail
            clear x0 hlx
            go_loopw [20] (fun v20 wq => ∃ j : Nat, j ≤ nw ∧ v20 = .int .i64 j ∧ Below w10.heap.size w10 wq) (fun v20 _ => nw - (intOf v20).toNat)
            case atStart => exact ⟨0, by omega, rfl, HBQ.out⟩
            case round =>
              obtain ⟨wv, rfl⟩ : ∃ wv : World, wv = wr := ⟨_, rfl⟩
              obtain ⟨j, hj, rfl, hbv⟩ := hrel
              have HBV := hid hbv
              have HSV := hid (HS10.out.new hbv)
              clear hbv
              obtain ⟨_, _, _, x3, hlx⟩ := HXS.out _ HSV.out.below
              by_cases hjn : j < nw
              · obtain ⟨y, hy⟩ : ∃ y, (runK m.pl (i + 1)).lines[j]? = some y := ⟨_, List.getElem?_eq_getElem (by rw [HLN.out]; exact hjn)⟩
                have h6 := (HOK.out.lns y (List.mem_of_getElem? hy)).six
                have hc1 := swire_any (HSV.out.get (i := 0) rfl).here HOK.out HL12.out (j : Int)
                have hc2 : ∀ w', Below wv.heap.size wv w' → Calls Tryd.prog 32 #[.pointer (some ⟨kb, 0, none⟩), .int .i64 j] w' (WireV w' y.items y.lost 0) := fun w' hb => by
                  have h := kwire_any (j : Int) m.pl (i + 1 : Nat) HOK.out HL12.out ((HSV.out.new hb).get (i := 1) rfl).here.1
                  rw [wire_at hy] at h
                  exact h
                rw [wire_at hy] at hc1
                unfold WireV at hc1 hc2
                simp only [errV_zero] at hc1 hc2
                obtain ⟨ny, hny⟩ : ∃ ny, y.items.length = ny := ⟨_, rfl⟩
                simp only [hny] at hc1 hc2 h6
                have HC1 : Hid (Calls Tryd.prog 31 #[.pointer (some ⟨sb, 0, none⟩), .int .i64 j] wv (HeldN wv ny y.items y.lost)) := hc1
                have HC2 : Hid (∀ w', Below wv.heap.size wv w' → Calls Tryd.prog 32 #[.pointer (some ⟨kb, 0, none⟩), .int .i64 j] w' (HeldN w' ny y.items y.lost)) := hc2
                have HNY := hid hny
                clear hc1 hc2 hy hny
                obtain ⟨yw, yi, yl⟩ := y
                simp only [] at HC1 HC2 HNY
                go_wp2_with fail
                refine HC1.out.mono ?_
                rintro e w11 ⟨A1, d1, rfl, hr1, _, hb11⟩
                have HB11 := hid (hb11.alloc hb11.size (.cells #[.slice A1 ny d1, .int .i64 yl] 73))
                have HX11 := hid (heap_alloc_new w11 (.cells #[.slice A1 ny d1, .int .i64 yl] 73))
                have HR1 := hid (hr1.alloc (.cells #[.slice A1 ny d1, .int .i64 yl] 73))
                clear hb11 hr1 x3 hlx
                go_wp2_with fail
                refine (HC2.out _ HB11.out).mono ?_
                rintro e w12 ⟨A2, d2, rfl, hr2, _, hb12⟩
                have h11 := (hb12.block _ (blk_lt HX11.out)).trans HX11.out
                have u0 := blk_cell h11 0
                have u1 := blk_cell h11 1
                have ul := blk_lt h11
                simp at u0 u1
                have hr1 := HR1.out.new hb12
                have HB12 := hid ((HB11.out.trans (hb12.mono HB11.out.size)).alloc (HB11.out.trans (hb12.mono HB11.out.size)).size (.cells #[.slice A2 ny d2, .int .i64 yl] 73))
                have hsame := held_same ⟨A1, d1, yi, yl⟩ ⟨A2, d2, yi, yl⟩ (w12.alloc (.cells #[.slice A2 ny d2, .int .i64 yl] 73)) ⟨by simp only []; rw [HNY.out]; exact (hr1.alloc _).sl, by simp only []; rw [HNY.out]; exact hr1.le.1, by simp only []; rw [HNY.out]; omega⟩ ⟨by simp only []; rw [HNY.out]; exact (hr2.alloc _).sl, by simp only []; rw [HNY.out]; exact hr2.le.1, by simp only []; rw [HNY.out]; omega⟩
                simp only [HNY.out] at hsame
                rw [show eqB (Hm.val ⟨A1, d1, yi, yl⟩) (Hm.val ⟨A2, d2, yi, yl⟩) = true from by simp [eqB, Hm.val]] at hsame
                have HSAME := hid hsame
                clear h11 hb12 HX11 HB11 hr1 hr2 HR1 hsame
                go_wp2_with fail
                refine HSAME.out.mono ?_
                rintro e w13 ⟨rfl, hb13⟩
                have HB13 := hid (HB12.out.trans (hb13.mono HB12.out.size))
                clear hb13 u0 u1 ul
                go_wp2_with fail
                go_roundw
                case rel => exact ⟨j + 1, by omega, by go_num, HBV.out.trans (HB13.out.mono HBV.out.size)⟩
                case measure => simp [intOf]; omega
              · obtain rfl : j = nw := by omega
                go_wp2_with fail
                go_roundw
                case rel => exact ⟨i + 1, S', M', by omega, by go_num, HSV.out⟩
                case measure => simp [intOf]; omega
      · have hex : n ≤ (i : Int) ∨ ((i : Int) < n ∧ i = 150) := by omega
        clear hin
        rcases hex with h1 | ⟨h1, rfl⟩
        all_goals
          go_wp2_with fail
          go_ret
          exact ⟨rfl, HBO.out⟩
  · have hbad := spread_bad (HF.out.new HB6.out) (HM.out.new HB6.out) he
    have hkb := fun (w' : World) (hb : Below w.heap.size w w') => kern_new_bad w' m (HF.out.new hb) (HM.out.new hb) he
    generalize planChk m.pl = E at hbad hkb he
    have hv := errV_pos he
    rw [HNN.out, HNS.out, HNW.out, hv] at hbad
    have HKB : Hid (∀ w', Below w.heap.size w w' → Calls Tryd.prog 28 #[.agg #[.slice m.A nn m.c, .int .i64 m.ticks, .slice m.sA ns m.sc, .slice m.wA nw m.wc]] w' fun e w'' => e = .returned (.tuple #[.pointer none, .iface 125 (.int .i64 E)]) ∧ Below w'.heap.size w' w'') := fun w' hb => by
      have h := hkb w' hb
      rw [HNN.out, HNS.out, HNW.out, hv] at h
      exact h
    clear hkb hv he
    refine hbad.mono ?_
    clear hbad
    rintro e w7 ⟨rfl, hb7⟩
    have HB7 := hid (HB6.out.trans (hb7.mono HB6.out.size))
    clear x0 x1 x2 x3 hlx
    obtain ⟨x0, x1, x2, x3, hlx⟩ := HXS.out _ hb7
    clear hb7
    go_wp2_with fail
    refine (HKB.out _ HB7.out).mono ?_
    rintro e w8 ⟨rfl, hb8⟩
    have HB8 := hid (HB7.out.trans (hb8.mono HB7.out.size))
    clear hb8 x0 x1 x2 x3 hlx
    go_wp2_with fail
    go_ret
    exact ⟨rfl, HB8.out⟩
end Go.Proofs.YtongkiccglaniaaDoor
