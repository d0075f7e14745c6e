/- The walk of framelaw4.TablesOne: it returns true at every input. -/
import Derived.Test.YtongkiccglaniaaDoorTabNew
import Derived.Test.YtongkiccglaniaaDoorDoorU
import Derived.Test.YtongkiccglaniaaDoorSameU
import Derived.Test.YtongkiccglaniaaDoorRunU
import Derived.IntWalk
namespace Go.Proofs.YtongkiccglaniaaDoor
open Go.RowKit
set_option maxRecDepth 100000

theorem tab_one (p : Pl) : tabChk p [p.spans] = planChk p := by
  unfold tabChk
  rw [if_neg (by simp), if_neg (by simp)]
  unfold tabFirst
  show (if planChk p ≠ 0 then planChk p else tabFirst p []) = planChk p
  by_cases h : planChk p = 0
  · rw [if_neg (by simpa using h), h]; rfl
  · rw [if_pos h]
theorem one_now (p : Pl) (k : Kst) : tNow p ⟨k, 0, 0⟩ = 0 := by unfold tNow; split <;> rfl
theorem one_tick (p : Pl) (k : Kst) : tTick p [p.spans] ⟨k, 0, 0⟩ = ((tick p k).1, ⟨(tick p k).2, 0, 0⟩) := by
  unfold tTick
  rw [one_now]; rfl
/-- New, of one list. -/
theorem tab_new_one {w w2 : World} {m : PM} {b : Nat} (hf : Forms w2) (hm : PlanAt w m) (hb : Below w.heap.size w w2) (hx : w2.heap[b]? = some (.cells #[.slice m.sA m.spans.length m.sc] 28 (0, 0))) (hz : m.spans.length ≤ 5864062014634) :
    Calls Tryd.prog 36 #[.agg #[.slice m.A m.ros.length m.c, .int .i64 m.ticks, .slice m.sA m.spans.length m.sc, .slice m.wA m.wires.length m.wc], .slice (some ⟨b, 0, none⟩) 1 1] w2
      fun e w' => (planChk m.pl ≠ 0 → e = .returned (.tuple #[.pointer none, errV (planChk m.pl)]) ∧ Below w2.heap.size w2 w') ∧ (planChk m.pl = 0 → ∃ tb kb T, e = .returned (.tuple #[.pointer (some ⟨tb, 0, none⟩), .nilIface]) ∧ Stand w2 w' [tabT tb kb m.pl [m.spans] T ⟨kNew m.pl, 0, 0⟩]) := by
  have hm2 := hm.new hb
  have h := tab_new (ls := [⟨m.sA, m.sc, m.spans⟩]) hf hm2 (sl_blk hx 1 1 _ rfl rfl) (lit_slW b 1 (by omega)) (fun y hy => by simp at hy; subst hy; exact ⟨hm2.spans, hm2.spansW, hm2.spansOk⟩) (fun y hy => by simp at hy; subst hy; exact hz)
  have e1 : tabChk m.pl ([(⟨m.sA, m.sc, m.spans⟩ : Tl)].map Tl.l) = planChk m.pl := tab_one m.pl
  rw [e1] at h
  refine h.mono ?_
  rintro e w' ⟨h1, h2⟩
  refine ⟨h1, fun h0 => ?_⟩
  obtain ⟨tb, kb, T, s0, hs0, he, hst⟩ := h2 h0
  simp at hs0
  subst hs0
  exact ⟨tb, kb, T, he, hst⟩
/-- New, of none. -/
theorem tab_new_none {w : World} {m : PM} (hf : Forms w) (hm : PlanAt w m) :
    Calls Tryd.prog 36 #[.agg #[.slice m.A m.ros.length m.c, .int .i64 m.ticks, .slice m.sA m.spans.length m.sc, .slice m.wA m.wires.length m.wc], .slice none 0 0] w fun e w' => e = .returned (.tuple #[.pointer none, errV 5]) ∧ Below w.heap.size w w' := by
  refine (tab_new (ls := []) (A := none) (c := 0) hf hm (Sl.nil _ _ _) ⟨Nat.le_refl _, Nat.zero_le _, fun _ => ⟨rfl, rfl⟩⟩ (fun y hy => by simp at hy) (fun y hy => by simp at hy)).mono ?_
  rintro e w' ⟨h1, _⟩
  exact h1 (by simp [tabChk])

set_option maxHeartbeats 8000000 in
theorem tablesOne_walk {w : World} (hg : Handle w) (hf : Forms w) (m : PM) (hm : PlanAt w m) (n a : Int) (hz : m.spans.length ≤ 5864062014634) :
    Calls Tryd.prog 9 #[.agg #[.slice m.A m.ros.length m.c, .int .i64 m.ticks, .slice m.sA m.spans.length m.sc, .slice m.wA m.wires.length m.wc], .int .i64 n, .int .i64 a] w fun e w' => e = .returned (.bool true) ∧ Below w.heap.size w w' := by
  have HG := hid hg
  have HF := hid hf
  have HM := hid hm
  obtain ⟨w1, hw1⟩ : ∃ w1, w1 = w.alloc (.cells #[.slice m.A m.ros.length m.c, .int .i64 m.ticks, .slice m.sA m.spans.length m.sc, .slice m.wA m.wires.length m.wc] 31) := ⟨_, rfl⟩
  have hb1 : Below w.heap.size w w1 := by rw [hw1]; exact (Below.refl _ _).alloc (Nat.le_refl _) _
  have hbox : w1.heap[w.heap.size]? = some (.cells #[.slice m.A m.ros.length m.c, .int .i64 m.ticks, .slice m.sA m.spans.length m.sc, .slice m.wA m.wires.length m.wc] 31 (0, 0)) := by rw [hw1]; exact heap_alloc_new w _
  obtain ⟨w2, hw2⟩ : ∃ w2, w2 = w1.alloc (.cells #[.slice m.sA m.spans.length m.sc] 28) := ⟨_, rfl⟩
  obtain ⟨b, hb⟩ : ∃ b, b = w1.heap.size := ⟨_, rfl⟩
  have hx2 : w2.heap[b]? = some (.cells #[.slice m.sA m.spans.length m.sc] 28 (0, 0)) := by rw [hw2, hb]; exact heap_alloc_new w1 _
  have hb2 : Below w1.heap.size w1 w2 := by rw [hw2]; exact (Below.refl _ _).alloc (Nat.le_refl _) _
  have hb02 := hb1.trans (hb2.mono hb1.size)
  have hnew := tab_new_one (hf.new hb02) hm hb02 hx2 hz
  have HNO : Hid (∀ w', Below w.heap.size w w' → Calls Tryd.prog 36 #[.agg #[.slice m.A m.ros.length m.c, .int .i64 m.ticks, .slice m.sA m.spans.length m.sc, .slice m.wA m.wires.length m.wc], .slice none 0 0] w' fun e w'' => e = .returned (.tuple #[.pointer none, errV 5]) ∧ Below w'.heap.size w' w'') := fun w' hb => tab_new_none (hf.new hb) (hm.new hb)
  obtain ⟨nn, hnn⟩ : ∃ nn, m.ros.length = nn := ⟨_, rfl⟩
  obtain ⟨ns, hns⟩ : ∃ ns, m.spans.length = ns := ⟨_, rfl⟩
  obtain ⟨nw, hnw⟩ : ∃ nw, m.wires.length = nw := ⟨_, rfl⟩
  rw [hnn, hns, hnw] at hw1 hbox hnew HNO ⊢
  rw [hns] at hw2
  have HNN := hid hnn
  have HNS := hid hns
  have HNW := hid hnw
  have HB1 := hid hb1
  have HB2 := hid hb02
  have HN := hid hnew
  have HXS : Hid (∀ w', Below w1.heap.size w1 w' → w'.cell? ⟨w.heap.size, 0, none⟩ = some (.slice m.A nn m.c) ∧ w'.cell? ⟨w.heap.size, 1, none⟩ = some (.int .i64 m.ticks) ∧ w'.cell? ⟨w.heap.size, 2, none⟩ = some (.slice m.sA ns m.sc) ∧ w'.cell? ⟨w.heap.size, 3, none⟩ = some (.slice m.wA nw m.wc) ∧ w.heap.size < w'.heap.size) := fun w' hb => by
    have h := (hb.block _ (blk_lt hbox)).trans hbox
    exact ⟨blk_cell h 0, blk_cell h 1, blk_cell h 2, blk_cell h 3, blk_lt h⟩
  have HX12 := hid hb2
  clear hg hf hm hb1 hbox hnn hns hnw hx2 hb2 hb02 hnew hz
  obtain ⟨x0, x1, x2, x3, hlx⟩ := HXS.out _ (Below.refl _ _)
  go_enter Tryd.func9, Tryd.ntmps9
  go_upto_region 1 with fail
  rw [← hw1]
  clear hw1
  go_wp2_with fail
  rw [← hw2, ← hb]
  clear hw2 x0 x1 x2 x3 hlx
  refine HN.out.mono ?_
  clear HN hb
  rintro e w3 ⟨hbad, hgood⟩
  by_cases he : planChk m.pl = 0
  · obtain ⟨tb, tk, T, rfl, hst⟩ := hgood he
    have HST3 := hid hst
    have HW3 := hid (HB2.out.trans (hst.below.mono HB2.out.size))
    have HX3 := hid (HX12.out.trans (hst.below.mono HX12.out.size))
    clear hst hgood hbad
    obtain ⟨x0, x1, x2, x3, hlx⟩ := HXS.out _ HX3.out
    have hk := new_run w3 m (HF.out.new HW3.out) (HM.out.new HW3.out) he
    unfold KNew at hk
    rw [HNN.out, HNS.out, HNW.out] at hk
    have HP := hid (planChk_ok he)
    have HTR : Hid (TRight m.pl [m.spans]) := tab_right (p := m.pl) ((tab_one m.pl).trans he) rfl
    clear he
    go_wp2_with fail
    refine hk.mono ?_
    clear hk x0 x1 x2 x3 hlx
    rintro e w4 ⟨kb, M, rfl, hr4⟩
    have HST4 : Hid (Stand w2 w4 [tabT tb tk m.pl [m.spans] T ⟨runK m.pl 0, 0, 0⟩, kT 152 201 145 kb m.pl M (runK m.pl 0)]) := HST3.out.add hr4.below (k_lie hr4.kat hr4.plan) (fun j hj => hr4.fresh j (.inl hj)) (fun j hj => .inl (hr4.fresh j hj))
    clear hr4 HST3
    have HW4 := hid (HB2.out.trans (HST4.out.below.mono HB2.out.size))
    obtain ⟨x0, x1, x2, x3, hlx⟩ := HXS.out _ (HX12.out.trans (HST4.out.below.mono HX12.out.size))
    go_wp2_with fail
    refine (HNO.out _ HW4.out).mono ?_
    rintro e w5 ⟨rfl, hb5⟩
    have HST5 := hid (HST4.out.new hb5)
    have HW5 := hid (HW4.out.trans (hb5.mono HW4.out.size))
    clear hb5 x0 x1 x2 x3 hlx HST4
    go_wp2_with fail
    have HERR : Hid (∀ w', Below w5.heap.size w5 w' → Calls Tryd.prog 22 #[errV 5, .int .i64 5] w' fun ev w'' => ev = .returned (.bool true) ∧ Below w'.heap.size w' w'') := fun w' hb => error_same 5 w' (HG.out.new (HW5.out.trans (hb.mono HW5.out.size)))
    rw [errV_pos (by decide)] at HERR
    go_region_held3 (fun _ => True)
      (exact trivial)
      (first | (go_at_call 22; refine (HERR.out _ (Below.refl _ _).drew).mono ?_; rintro e w6 ⟨rfl, hb6⟩; have HB6 := hid ((Below.refl w5.heap.size w5).drew.trans hb6); clear hb6))
    have HST6 := hid (HST5.out.new HB6.out)
    clear HERR HB6 HST5 HW5 HW4 HW3 HX3
    go_wp2_with fail
    go_loopw [13] (fun v13 wr => ∃ (i : Nat) (T : TM) (M : KM), i ≤ 100 ∧ v13 = .int .i64 i ∧ Stand w2 wr [tabT tb tk m.pl [m.spans] T ⟨runK m.pl i, 0, 0⟩, kT 152 201 145 kb m.pl M (runK m.pl i)]) (fun v13 _ => 100 - (intOf v13).toNat)
    case atStart => exact ⟨0, T, M, by omega, rfl, HST6.out⟩
    case round =>
      obtain ⟨wo, rfl⟩ : ∃ wo : World, wo = wr := ⟨_, rfl⟩
      obtain ⟨i, T, M, hi, rfl, hst⟩ := hrel
      have HSR := hid hst
      have HBO := hid (HB2.out.trans (hst.below.mono HB2.out.size))
      clear hst HST6
      by_cases hin : (i : Int) < n ∧ i < 100
      · obtain ⟨hin, h100⟩ := hin
        have h100' : (i : Int) < 100 := by omega
        go_upto_region 11 with fail
        go_cut [60] (fun v wx => v = .bool false ∧ Stand w2 wx [tabT tb tk m.pl [m.spans] T ⟨runK m.pl i, 0, 0⟩, kT 152 201 145 kb m.pl M (runK m.pl i)])
        case first =>
          as_aux_lemma =>
          by_cases hia : (i : Int) = a
          · have hd : ((i : Int) == a) = true := by simpa using hia
            clear hia
            have hask := task_stand (i := 0) HSR.out rfl (by simp) 0
            have e0 : askErr [m.spans] 0 = 0 := by simp [askErr, inB]
            have e1 : tAsk [m.spans] ⟨runK m.pl i, 0, 0⟩ 0 = ⟨runK m.pl i, 0, 0⟩ := by simp [tAsk, inB]
            rw [e0, e1, errV_zero] at hask
            clear e0 e1
            go_wp2_with fail
            refine hask.mono ?_
            clear hask
            rintro e wx ⟨rfl, hst⟩
            have HSX := hid hst
            clear hst
            go_wp2_with fail
            go_meet
            exact ⟨rfl, HSX.out⟩
          · have hd : ((i : Int) == a) = false := by simpa using hia
            clear hia
            go_wp2_with fail
            go_meet
            exact ⟨rfl, HSR.out⟩
        obtain ⟨rfl, hst⟩ := hcut
        obtain ⟨wc', rfl⟩ : ∃ w' : World, w' = wc := ⟨_, rfl⟩
        have HSC := hid hst
        clear hst HSR HBO
        have hok : TOk m.pl [m.spans] ⟨runK m.pl i, 0, 0⟩ i := ⟨runK_ok HP.out i, by simp, by simp⟩
        have htk := ttick_stand (i := 0) HSC.out rfl HTR.out hok (by omega)
        have h1t : tTick m.pl [m.spans] ⟨runK m.pl i, 0, 0⟩ = ((tick m.pl (runK m.pl i)).1, ⟨(tick m.pl (runK m.pl i)).2, 0, 0⟩) := one_tick m.pl (runK m.pl i)
        rw [h1t] at htk
        clear h1t
        clear hok
        obtain ⟨q, hq⟩ : ∃ q, q = tick m.pl (runK m.pl i) := ⟨_, rfl⟩
        have hq2 : q.2 = runK m.pl (i + 1) := by rw [hq]; rfl
        have HKT : Hid (∀ (w' : World) (M' : KM), KAt 152 201 145 w' kb M' (runK m.pl i) → M'.P.pl = m.pl → Calls Tryd.prog 29 #[.pointer (some ⟨kb, 0, none⟩)] w' (KTicked 152 201 145 w' kb M' q)) := fun w' M' h1 h2 => by
          rw [hq]; exact ktick_any w' kb M' (runK m.pl i) m.pl i HP.out h2 (runK_ok HP.out i) (by omega) h1
        rw [← hq] at htk
        obtain ⟨⟨ek, rm, pc, wh⟩, k'⟩ := q
        simp only [] at hq2 htk
        subst hq2
        unfold KTicked at HKT
        simp only [] at HKT
        have hne : ∀ w, (binOp .neq 34 (.agg #[.int .i64 ek, .int .i64 rm, .int .i64 pc, .int .i64 wh]) (.agg #[.int .i64 ek, .int .i64 rm, .int .i64 pc, .int .i64 wh])).run Tryd.prog w = .ok (.bool false) w := fun w => event_neq ⟨ek, rm, pc, wh⟩ w
        have hge := event_guard
        clear hq
        go_upto_if 60 with fail
        go_wp2_with fail
        refine htk.mono ?_
        clear htk
        rintro e w9 ⟨T', rfl, hst⟩
        have HS9 : Hid (Stand w2 w9 [tabT tb tk m.pl [m.spans] T' ⟨runK m.pl (i + 1), 0, 0⟩, kT 152 201 145 kb m.pl M (runK m.pl i)]) := hst
        clear hst
        go_wp2_with fail
        have hkk := (HS9.out.get (i := 1) rfl).here
        refine (HKT.out _ M hkk.1 hkk.2).mono ?_
        clear hkk
        rintro e w10 ⟨M', rfl, h1, h2, h3, h4⟩
        have HS10 : Hid (Stand w2 w10 [tabT tb tk m.pl [m.spans] T' ⟨runK m.pl (i + 1), 0, 0⟩, kT 152 201 145 kb m.pl M' (runK m.pl (i + 1))]) := HS9.out.go 1 rfl (k_went (HS9.out.get (i := 1) rfl) h1 h2 h3 h4)
        clear h1 h2 h3 h4 HS9 HSC HKT
        have hnow := tnow_any (HS10.out.get (i := 0) rfl).here HTR.out (⟨runK_ok HP.out (i + 1), by simp, by simp⟩ : TOk m.pl [m.spans] ⟨runK m.pl (i + 1), 0, 0⟩ ((i + 1 : Nat) : Int)) (by omega)
        rw [one_now] at hnow
        go_wp2_with fail
        refine hnow.mono ?_
        clear hnow hne hge
        rintro e w11 ⟨rfl, hb11⟩
        have HS11 := hid (HS10.out.new hb11)
        clear hb11 HS10
        go_wp2_with fail
        go_roundw
        case rel => exact ⟨i + 1, T', M', by omega, by go_num, HS11.out⟩
        case measure => simp [intOf]; omega
      · have hex : n ≤ (i : Int) ∨ ((i : Int) < n ∧ i = 100) := by omega
        clear hin
        rcases hex with h1 | ⟨h1, rfl⟩
        all_goals
          go_wp2_with fail
          go_ret
          exact ⟨rfl, HBO.out⟩
  · obtain ⟨rfl, hb3⟩ := hbad he
    have HW3 := hid (HB2.out.trans (hb3.mono HB2.out.size))
    have HX3 := hid (HX12.out.trans (hb3.mono HX12.out.size))
    clear hgood hbad hb3
    obtain ⟨x0, x1, x2, x3, hlx⟩ := HXS.out _ HX3.out
    have hk := kern_new_bad w3 m (HF.out.new HW3.out) (HM.out.new HW3.out) he
    generalize planChk m.pl = E at hk he
    have hv := errV_pos he
    rw [HNN.out, HNS.out, HNW.out, hv] at hk
    rw [hv]
    clear hv he
    go_wp2_with fail
    refine hk.mono ?_
    clear hk x0 x1 x2 x3 hlx
    rintro e w4 ⟨rfl, hb4⟩
    have HW4 := hid (HW3.out.trans (hb4.mono HW3.out.size))
    obtain ⟨x0, x1, x2, x3, hlx⟩ := HXS.out _ (HX3.out.trans (hb4.mono HX3.out.size))
    clear hb4
    go_wp2_with fail
    refine (HNO.out _ HW4.out).mono ?_
    rintro e w5 ⟨rfl, hb5⟩
    have HW5 := hid (HW4.out.trans (hb5.mono HW4.out.size))
    clear hb5 x0 x1 x2 x3 hlx
    go_wp2_with fail
    have HERR : Hid (∀ w', Below w5.heap.size w5 w' → Calls Tryd.prog 22 #[errV 5, .int .i64 5] w' fun ev w'' => ev = .returned (.bool true) ∧ Below w'.heap.size w' w'') := fun w' hb => error_same 5 w' (HG.out.new (HW5.out.trans (hb.mono HW5.out.size)))
    rw [errV_pos (by decide)] at HERR
    go_region_held3 (fun _ => True)
      (exact trivial)
      (first | (go_at_call 22; refine (HERR.out _ (Below.refl _ _).drew).mono ?_; rintro e w6 ⟨rfl, hb6⟩; have HB6 := hid ((Below.refl w5.heap.size w5).drew.trans hb6); clear hb6))
    have HW6 := hid (HW5.out.trans (HB6.out.mono HW5.out.size))
    clear HERR HB6
    go_wp2_with fail
    go_ret
    exact ⟨rfl, HW6.out⟩
end Go.Proofs.YtongkiccglaniaaDoor
