/- The walk of framelaw1.PlanTells: it returns true at every input. -/
import Derived.Test.YtldllmhgofacbaaGreatDoorRPlanPUL
import Derived.Test.YtldllmhgofacbaaGreatDoorPParseUL
import Derived.Test.YtldllmhgofacbaaGreatDoorPMiscUL
import Derived.Test.YtldllmhgofacbaaGreatDoorDoorU
import Derived.Deep.DeepCutAuto
namespace Go.Proofs.YtldllmhgofacbaaGreatDoor
open Go.RowKit
set_option maxRecDepth 100000

/-- A plan that is handed back, and an error. -/
def PlanRow (w : World) (p : Pl) (v : Value) (e : Ending) (w' : World) : Prop := ∃ m : PM, m.pl = p ∧ e = .returned (.tuple #[.agg #[.slice m.A m.ros.length m.c, .int .i64 m.ticks, .slice m.sA m.spans.length m.sc, .slice m.wA m.wires.length m.wc], v]) ∧ PlanAt w' m ∧ Below w.heap.size w w'
theorem zero_at (w : World) : PlanAt w ⟨none, 0, [], 0, none, 0, [], none, 0, []⟩ :=
  ⟨Sl.nil _ _ _, ⟨Nat.le_refl _, by decide, fun _ => ⟨rfl, rfl⟩⟩, (fun r hr => by cases hr), (by show Fits 0; unfold Fits; omega), Sl.nil _ _ _, ⟨Nat.le_refl _, by decide, fun _ => ⟨rfl, rfl⟩⟩, (fun y hy => by cases hy), Sl.nil _ _ _, ⟨Nat.le_refl _, by decide, fun _ => ⟨rfl, rfl⟩⟩, fun y hy => by cases hy⟩
def zeroPlan : Pl := ⟨[], 0, [], []⟩
theorem zero_row {w w' : World} {v : Value} (hb : Below w.heap.size w w') : PlanRow w zeroPlan v (.returned (.tuple #[.agg zeroPl, v])) w' := ⟨_, rfl, rfl, zero_at w', hb⟩
def smallPl (p : Pl) : Prop := p.code.length ≤ 1000 ∧ p.spans.length ≤ 1000 ∧ p.wires.length ≤ 1000 ∧ ∀ c ∈ p.code, c.length ≤ 1000
theorem small_ok {p : Pl} (h : planChk p = 0) : smallPl p := by
  have hs := planSmall (m := ⟨none, 0, p.code.map fun c => ⟨none, 0, c⟩, p.ticks, none, 0, p.spans, none, 0, p.wires⟩) (by
    have e : PM.pl ⟨none, 0, p.code.map fun c => ⟨none, 0, c⟩, p.ticks, none, 0, p.spans, none, 0, p.wires⟩ = p := by
      obtain ⟨c, a, s, x⟩ := p
      simp [PM.pl, Function.comp_def]
    rw [e]; exact h)
  have h1 := hs.ros
  have h2 := hs.spans
  have h3 := hs.wires
  simp only [List.length_map] at h1 h2 h3
  refine ⟨by omega, by omega, by omega, fun c hc => ?_⟩
  have := hs.ops ⟨none, 0, c⟩ (List.mem_map_of_mem (f := fun c => (⟨none, 0, c⟩ : Ro)) hc)
  simp only [] at this; omega
/-- The program and the reference read the same. -/
theorem both_plans (t : ByteArray) (ht : t.size ≤ 1073741824) : ∃ (p : Pl) (E : Int), smallPl p ∧ (∀ w, Calls Tryz.prog 17 #[.string t] w (PlanRow w p (.int .i64 E))) ∧ (∀ w, Forms w → Names w → Desk w → Parts w → Calls Tryz.prog 18 #[.string t] w (PlanRow w p (errV E))) := by
  by_cases h : ∃ p : Pl, WfPl p ∧ planText p = t.data.toList
  · obtain ⟨p, hwf, hpt⟩ := h
    by_cases hc : planChk p = 0
    · refine ⟨p, 0, small_ok hc, fun w => ?_, fun w h1 h2 h3 h4 => ?_⟩
      · refine (rreadplan_any t ht w).mono ?_
        rintro e w' ⟨hb, ⟨m, g1, g2, g3, rfl, g5⟩ | ⟨p', g1, g2, g3, rfl⟩ | ⟨g, rfl⟩⟩
        · exact ⟨m, plan_inj g1 hwf (g2.trans hpt.symm), rfl, g5, hb⟩
        · have := plan_inj g1 hwf (g2.trans hpt.symm); subst this
          exact absurd hc g3
        · exact absurd hpt (g p hwf)
      · refine (pparse_any t ht w h1 h2 h3 h4).mono ?_
        rintro e w' ⟨hb, ⟨m, g1, g2, g3, rfl, g5, _⟩ | ⟨p', g1, g2, g3, rfl⟩ | ⟨g, rfl⟩⟩
        · exact ⟨m, plan_inj g1 hwf (g2.trans hpt.symm), by rw [errV_zero], g5, hb⟩
        · have := plan_inj g1 hwf (g2.trans hpt.symm); subst this
          exact absurd hc g3
        · exact absurd hpt (g p hwf)
    · refine ⟨zeroPlan, planChk p, by unfold smallPl zeroPlan; simp, fun w => ?_, fun w h1 h2 h3 h4 => ?_⟩
      · refine (rreadplan_any t ht w).mono ?_
        rintro e w' ⟨hb, ⟨m, g1, g2, g3, rfl, g5⟩ | ⟨p', g1, g2, g3, rfl⟩ | ⟨g, rfl⟩⟩
        · have := plan_inj g1 hwf (g2.trans hpt.symm)
          rw [this] at g3
          exact absurd g3 hc
        · have := plan_inj g1 hwf (g2.trans hpt.symm); subst this
          exact zero_row hb
        · exact absurd hpt (g p hwf)
      · refine (pparse_any t ht w h1 h2 h3 h4).mono ?_
        rintro e w' ⟨hb, ⟨m, g1, g2, g3, rfl, g5, _⟩ | ⟨p', g1, g2, g3, rfl⟩ | ⟨g, rfl⟩⟩
        · have := plan_inj g1 hwf (g2.trans hpt.symm)
          rw [this] at g3
          exact absurd g3 hc
        · have := plan_inj g1 hwf (g2.trans hpt.symm); subst this
          exact zero_row hb
        · exact absurd hpt (g p hwf)
  · refine ⟨zeroPlan, 2, by unfold smallPl zeroPlan; simp, fun w => ?_, fun w h1 h2 h3 h4 => ?_⟩
    · refine (rreadplan_any t ht w).mono ?_
      rintro e w' ⟨hb, ⟨m, g1, g2, g3, rfl, g5⟩ | ⟨p', g1, g2, g3, rfl⟩ | ⟨g, rfl⟩⟩
      · exact absurd ⟨_, g1, g2⟩ h
      · exact absurd ⟨_, g1, g2⟩ h
      · exact zero_row hb
    · refine (pparse_any t ht w h1 h2 h3 h4).mono ?_
      rintro e w' ⟨hb, ⟨m, g1, g2, g3, rfl, g5, _⟩ | ⟨p', g1, g2, g3, rfl⟩ | ⟨g, rfl⟩⟩
      · exact absurd ⟨_, g1, g2⟩ h
      · exact absurd ⟨_, g1, g2⟩ h
      · exact zero_row hb
theorem planTells_ret {w w' : World} {a : Act} (h : a.tmps[4]? = some (.bool true)) (hd : a.defers = []) (hb : Below w.heap.size w w') : bodyPost Tryz.prog Tryz.f3 (fun e w' => e = .returned (.bool true) ∧ Below w.heap.size w w') .ret a w' :=
  bodyPost_ret (v := .bool true) (by simp [results, Tryz.results3, go_sem, h]) hd ⟨rfl, hb⟩

set_option maxHeartbeats 8000000 in
theorem planTells_walk {w : World} (hg : Handle w) (hf : Forms w) (hnm : Names w) (hd : Desk w) (hp : Parts w) (m : PM) (hm : PlanAt w m) (t : ByteArray) (ht : t.size ≤ 1073741824) :
    Calls Tryz.prog 3 #[.agg #[.slice m.A m.ros.length m.c, .int .i64 m.ticks, .slice m.sA m.spans.length m.sc, .slice m.wA m.wires.length m.wc], .string t] w fun e w' => e = .returned (.bool true) ∧ Below w.heap.size w w' := by
  have HER : Hid (∀ e w', Below w.heap.size w w' → Calls Tryz.prog 13 #[errV e, .int .i64 e] w' fun ev w'' => ev = .returned (.bool true) ∧ Below w'.heap.size w' w'') := hid fun e w' hb => error_same e w' (hg.new hb)
  have HPL : Hid (∀ w', Below w.heap.size w w' → Calls Tryz.prog 12 #[.agg #[.slice m.A m.ros.length m.c, .int .i64 m.ticks, .slice m.sA m.spans.length m.sc, .slice m.wA m.wires.length m.wc]] w' (TellV w' (planChk m.pl))) := hid fun w' hb => rplan_any w' m (hm.new hb)
  have HCK : Hid (∀ w', Below w.heap.size w w' → Calls Tryz.prog 14 #[.agg #[.slice m.A m.ros.length m.c, .int .i64 m.ticks, .slice m.sA m.spans.length m.sc, .slice m.wA m.wires.length m.wc]] w' fun e w'' => e = .returned (errV (planChk m.pl)) ∧ Below w'.heap.size w' w'') := hid fun w' hb => plan_check m w' (hf.new hb) (hm.new hb)
  have HPR : Hid (∀ w', Below w.heap.size w w' → Calls Tryz.prog 16 #[.agg #[.slice m.A m.ros.length m.c, .int .i64 m.ticks, .slice m.sA m.spans.length m.sc, .slice m.wA m.wires.length m.wc]] w' (PPrinted w' m.pl)) := hid fun w' hb => pprint_any m w' (hf.new hb) (hnm.new hf hb) (hd.new hb).pows (hm.new hb)
  have HRT : Hid (planChk m.pl = 0 → ∀ w', Below w.heap.size w w' → Calls Tryz.prog 15 #[.agg #[.slice m.A m.ros.length m.c, .int .i64 m.ticks, .slice m.sA m.spans.length m.sc, .slice m.wA m.wires.length m.wc]] w' fun e w'' => ∃ T : ByteArray, e = .returned (.string T) ∧ T.data.toList = planText m.pl ∧ Below w'.heap.size w' w'') := hid fun he w' hb => rplantext_any m w' (hm.new hb) he
  obtain ⟨pl, E2, hsm, hrr, hpp⟩ := both_plans t ht
  have HRR := hid hrr
  have HPP : Hid (∀ w', Below w.heap.size w w' → Calls Tryz.prog 18 #[.string t] w' (PlanRow w' pl (errV E2))) := hid fun w' hb => hpp w' (hf.new hb) (hnm.new hf hb) (hd.new hb) (hp.new hb)
  have HSAME : Hid (∀ (m' m2 : PM) w', PlanAt w' m' → PlanAt w' m2 → m'.pl = pl → m2.pl = pl → Calls Tryz.prog 19 #[.agg #[.slice m'.A m'.ros.length m'.c, .int .i64 m'.ticks, .slice m'.sA m'.spans.length m'.sc, .slice m'.wA m'.wires.length m'.wc], .agg #[.slice m2.A m2.ros.length m2.c, .int .i64 m2.ticks, .slice m2.sA m2.spans.length m2.sc, .slice m2.wA m2.wires.length m2.wc]] w' fun e w'' => e = .returned (.bool true) ∧ Below w'.heap.size w' w'') := hid fun m' m2 w' h1 h2 e1 e2 => by
    obtain ⟨g1, g2, g3, g4⟩ := hsm
    rw [← e1] at g1 g2 g3 g4
    refine same_plan m' m2 w' h1 h2 (e1.trans e2.symm) ?_ g2 g3 fun r hr => g4 r.ops (by unfold PM.pl; exact List.mem_map_of_mem hr)
    have : m'.pl.code.length = m'.ros.length := by unfold PM.pl; simp
    omega
  unfold TellV at HPL
  unfold PPrinted at HPR
  unfold PlanRow at HRR HPP
  obtain ⟨E, hE⟩ : ∃ E, E = planChk m.pl := ⟨_, rfl⟩
  rw [← hE] at HPL HCK HPR HRT
  obtain ⟨TX, hTX⟩ : ∃ TX : ByteArray, TX = ⟨(if E = 0 then planText m.pl else []).toArray⟩ := ⟨_, rfl⟩
  have HPR2 : Hid (∀ w', Below w.heap.size w w' → Calls Tryz.prog 16 #[.agg #[.slice m.A m.ros.length m.c, .int .i64 m.ticks, .slice m.sA m.spans.length m.sc, .slice m.wA m.wires.length m.wc]] w' fun e w'' => e = .returned (.tuple #[.string TX, errV E]) ∧ Below w'.heap.size w' w'') := hid fun w' hb => by rw [hTX]; exact HPR.out w' hb
  have HTX := hid hTX
  obtain ⟨w1, hw1⟩ : ∃ w1, w1 = w.alloc (.cells #[.slice m.A m.ros.length m.c, .int .i64 m.ticks, .slice m.sA m.spans.length m.sc, .slice m.wA m.wires.length m.wc] 26) := ⟨_, rfl⟩
  have hb1 : Below w.heap.size w w1 := by rw [hw1]; exact (Below.refl _ _).alloc (Nat.le_refl _) _
  have hbox : w1.heap[w.heap.size]? = some (.cells #[.slice m.A m.ros.length m.c, .int .i64 m.ticks, .slice m.sA m.spans.length m.sc, .slice m.wA m.wires.length m.wc] 26 (0, 0)) := by rw [hw1]; exact heap_alloc_new w _
  have HV : Hid (∀ w', Below w1.heap.size w1 w' → Below w.heap.size w w') := hid fun w' hb => hb1.trans (hb.mono hb1.size)
  obtain ⟨nr, hnr⟩ : ∃ nr, m.ros.length = nr := ⟨_, rfl⟩
  obtain ⟨ns, hns⟩ : ∃ ns, m.spans.length = ns := ⟨_, rfl⟩
  obtain ⟨nw, hnw⟩ : ∃ nw, m.wires.length = nw := ⟨_, rfl⟩
  rw [hnr, hns, hnw] at HPL HCK HPR2 HRT hbox hw1 ⊢
  have HBX : Hid (∀ w', Below w1.heap.size w1 w' → w'.cell? ⟨w.heap.size, 0, none⟩ = some (.slice m.A nr m.c) ∧ w'.cell? ⟨w.heap.size, 1, none⟩ = some (.int .i64 m.ticks) ∧ w'.cell? ⟨w.heap.size, 2, none⟩ = some (.slice m.sA ns m.sc) ∧ w'.cell? ⟨w.heap.size, 3, none⟩ = some (.slice m.wA nw m.wc) ∧ w.heap.size < w'.heap.size) := hid fun w' hb => by
    have h := (hb.block _ (blk_lt hbox)).trans hbox
    have x0 := blk_cell h 0
    have x1 := blk_cell h 1
    have x2 := blk_cell h 2
    have x3 := blk_cell h 3
    simp at x0 x1 x2 x3
    exact ⟨x0, x1, x2, x3, blk_lt h⟩
  have HB := hid (Below.refl w1.heap.size w1)
  clear hg hf hnm hd hp hm hsm hrr hpp hE hTX HPR hb1 hbox hnr hns hnw
  go_enter Tryz.func3, Tryz.ntmps3
  go_upto_region 1 with fail
  rw [← hw1]
  clear hw1
  obtain ⟨x0, x1, x2, x3, hlx⟩ := HBX.out w1 HB.out
  go_upto_region 2 with (go_at_call 12; refine (HPL.out _ (HV.out _ HB.out)).mono ?_; rintro e w2 ⟨rfl, hb2⟩; replace HB := hid (HB.out.trans (hb2.mono HB.out.size)); clear hb2 x0 x1 x2 x3 hlx)
  obtain ⟨x0, x1, x2, x3, hlx⟩ := HBX.out w2 HB.out
  go_upto_if 21 with (first
    | (go_at_call 14; refine (HCK.out _ (HV.out _ HB.out)).mono ?_; rintro e w3 ⟨rfl, hb3⟩; replace HB := hid (HB.out.trans (hb3.mono HB.out.size)); clear hb3 x0 x1 x2 x3 hlx)
    | (go_at_call 13; refine (HER.out _ _ (HV.out _ HB.out)).mono ?_; rintro e w4 ⟨rfl, hb4⟩; replace HB := hid (HB.out.trans (hb4.mono HB.out.size)); clear hb4))
  go_cut [7] (fun v7 wx => v7 = .string TX ∧ Below w1.heap.size w1 wx)
  case first =>
    as_aux_lemma =>
    obtain ⟨x0, x1, x2, x3, hlx⟩ := HBX.out _ HB.out
    by_cases he : E = 0
    · have HR2 := hid (HRT.out he)
      have HET : Hid (TX = ⟨(planText m.pl).toArray⟩) := hid (by rw [HTX.out, if_pos he])
      subst he
      clear HRT
      go_wp2_with (go_at_call 15; refine (HR2.out _ (HV.out _ HB.out)).mono ?_; rintro e w5 ⟨T, rfl, hT, hb5⟩; have HB5 := hid (HB.out.trans (hb5.mono HB.out.size)); have HT := hid hT; clear hb5 hT x0 x1 x2 x3 hlx)
      have hTT : T = TX := by
        rw [HET.out]
        apply ByteArray.ext
        apply Array.ext'
        rw [HT.out]
      subst hTT
      go_meet
      exact ⟨rfl, HB5.out⟩
    · have hne : (E == 0) = false := by simpa using he
      have HET : Hid (TX = ⟨#[]⟩) := hid (by rw [HTX.out, if_neg he])
      clear he x0 x1 x2 x3 hlx
      go_wp2_with fail
      go_meet
      refine ⟨?_, HB.out⟩
      rw [HET.out]
  case rest =>
    as_aux_lemma =>
    obtain ⟨rfl, hbc⟩ := hcut
    obtain ⟨wa, rfl⟩ : ∃ wa : World, wa = wc := ⟨_, rfl⟩
    replace HB := hid hbc
    obtain ⟨x0, x1, x2, x3, hlx⟩ := HBX.out _ HB.out
    clear hbc
    go_upto_region 8 with (first
      | (go_at_call 16; refine (HPR2.out _ (HV.out _ HB.out)).mono ?_; rintro e w5 ⟨rfl, hb5⟩; replace HB := hid (HB.out.trans (hb5.mono HB.out.size)); clear hb5 x0 x1 x2 x3 hlx)
      | (go_at_call 13; refine (HER.out _ _ (HV.out _ HB.out)).mono ?_; rintro e w6 ⟨rfl, hb6⟩; replace HB := hid (HB.out.trans (hb6.mono HB.out.size)); clear hb6))
    clear HPR2 HRT HCK HPL HTX
    go_upto_region 9 with (go_at_call 17; refine (HRR.out _).mono ?_; rintro e w7 ⟨m7, hm7, rfl, hat7, hb7⟩; replace HB := hid (HB.out.trans (hb7.mono HB.out.size)); have HM7 := hid hm7; have HAT7 := hid hat7; clear hb7 hm7 hat7)
    obtain ⟨n7, hn7⟩ : ∃ n7, m7.ros.length = n7 := ⟨_, rfl⟩
    obtain ⟨s7, hs7⟩ : ∃ s7, m7.spans.length = s7 := ⟨_, rfl⟩
    obtain ⟨q7, hq7⟩ : ∃ q7, m7.wires.length = q7 := ⟨_, rfl⟩
    rw [hn7, hs7, hq7]
    obtain ⟨w8, hw8⟩ : ∃ w8, w8 = w7.alloc (.cells #[.slice m7.A n7 m7.c, .int .i64 m7.ticks, .slice m7.sA s7 m7.sc, .slice m7.wA q7 m7.wc] 26) := ⟨_, rfl⟩
    have hb8 : Below w1.heap.size w1 w8 := by rw [hw8]; exact HB.out.alloc HB.out.size _
    have hx8 : w8.heap[w7.heap.size]? = some (.cells #[.slice m7.A n7 m7.c, .int .i64 m7.ticks, .slice m7.sA s7 m7.sc, .slice m7.wA q7 m7.wc] 26 (0, 0)) := by rw [hw8]; exact heap_alloc_new w7 _
    have hat8 : PlanAt w8 m7 := by rw [hw8]; exact HAT7.out.new ((Below.refl _ _).alloc (Nat.le_refl _) _)
    rw [← hw8]
    replace HB := hid hb8
    have HX8 := hid hx8
    have HAT8 := hid hat8
    have HN7 := hid hn7
    have HS7 := hid hs7
    have HQ7 := hid hq7
    clear hw8 hb8 hx8 hat8 HAT7 hn7 hs7 hq7
    go_upto_region 10 with (go_at_call 18; refine (HPP.out _ (HV.out _ HB.out)).mono ?_; rintro e w9 ⟨m9, hm9, rfl, hat9, hb9⟩; replace HB := hid (HB.out.trans (hb9.mono HB.out.size)); replace HX8 := hid ((hb9.block _ (blk_lt HX8.out)).trans HX8.out); replace HAT8 := hid (HAT8.out.new hb9); have HM9 := hid hm9; have HAT9 := hid hat9; clear hb9 hm9 hat9)
    obtain ⟨n9, hn9⟩ : ∃ n9, m9.ros.length = n9 := ⟨_, rfl⟩
    obtain ⟨s9, hs9⟩ : ∃ s9, m9.spans.length = s9 := ⟨_, rfl⟩
    obtain ⟨q9, hq9⟩ : ∃ q9, m9.wires.length = q9 := ⟨_, rfl⟩
    rw [hn9, hs9, hq9]
    obtain ⟨wx, hwx⟩ : ∃ wx, wx = w9.alloc (.cells #[.slice m9.A n9 m9.c, .int .i64 m9.ticks, .slice m9.sA s9 m9.sc, .slice m9.wA q9 m9.wc] 26) := ⟨_, rfl⟩
    have hbx : Below w1.heap.size w1 wx := by rw [hwx]; exact HB.out.alloc HB.out.size _
    have hnew : Below w9.heap.size w9 wx := by rw [hwx]; exact (Below.refl _ _).alloc (Nat.le_refl _) _
    have hxx : wx.heap[w9.heap.size]? = some (.cells #[.slice m9.A n9 m9.c, .int .i64 m9.ticks, .slice m9.sA s9 m9.sc, .slice m9.wA q9 m9.wc] 26 (0, 0)) := by rw [hwx]; exact heap_alloc_new w9 _
    rw [← hwx]
    replace HB := hid hbx
    have HX9 := hid hxx
    replace HX8 := hid ((hnew.block _ (blk_lt HX8.out)).trans HX8.out)
    replace HAT8 := hid (HAT8.out.new hnew)
    replace HAT9 := hid (HAT9.out.new hnew)
    have HSM : Hid (∀ w', Below wx.heap.size wx w' → Calls Tryz.prog 19 #[.agg #[.slice m9.A n9 m9.c, .int .i64 m9.ticks, .slice m9.sA s9 m9.sc, .slice m9.wA q9 m9.wc], .agg #[.slice m7.A n7 m7.c, .int .i64 m7.ticks, .slice m7.sA s7 m7.sc, .slice m7.wA q7 m7.wc]] w' fun e w'' => e = .returned (.bool true) ∧ Below w'.heap.size w' w'') := hid fun w' hb => by
      have h := HSAME.out m9 m7 w' (HAT9.out.new hb) (HAT8.out.new hb) HM9.out HM7.out
      rw [hn9, hs9, hq9, HN7.out, HS7.out, HQ7.out] at h
      exact h
    have HBB := hid (Below.refl wx.heap.size wx)
    clear hwx hbx hnew hxx hn9 hs9 hq9
    go_wp2_with (first
      | (go_at_call 13; refine (HER.out _ _ (HV.out _ HB.out)).mono ?_; rintro e wy ⟨rfl, hby⟩; replace HB := hid (HB.out.trans (hby.mono HB.out.size)); replace HBB := hid (HBB.out.trans (hby.mono HBB.out.size)); have hy8 := (hby.block _ (blk_lt HX8.out)).trans HX8.out; have hy9 := (hby.block _ (blk_lt HX9.out)).trans HX9.out; have y0 := blk_cell hy8 0; have y1 := blk_cell hy8 1; have y2 := blk_cell hy8 2; have y3 := blk_cell hy8 3; have ly := blk_lt hy8; have z0 := blk_cell hy9 0; have z1 := blk_cell hy9 1; have z2 := blk_cell hy9 2; have z3 := blk_cell hy9 3; have lz := blk_lt hy9; simp at y0 y1 y2 y3 z0 z1 z2 z3; clear hby hy8 hy9)
      | (go_at_call 19; refine (HSM.out _ HBB.out).mono ?_; rintro e wz ⟨rfl, hbz⟩; replace HB := hid (HB.out.trans (hbz.mono HB.out.size)); clear hbz))
    exact planTells_ret rfl rfl (HV.out _ HB.out)
end Go.Proofs.YtldllmhgofacbaaGreatDoor
