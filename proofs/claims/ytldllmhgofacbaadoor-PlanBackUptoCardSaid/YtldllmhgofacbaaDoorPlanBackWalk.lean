/- The walk of framelaw1.PlanBack: it returns true at every input. -/
import Derived.Test.YtldllmhgofacbaaDoorPlanBackLaw
import Derived.Deep.DeepCutAuto
namespace Go.Proofs.YtldllmhgofacbaaDoor
open Go.RowKit
set_option maxRecDepth 100000

theorem txt_of2 (t : ByteArray) : txt t.data.toList = .string t := rfl
theorem planBack_ret {w w' : World} {a : Act} (h : a.tmps[4]? = some (.bool true)) (hd : a.defers = []) (hb : Below w.heap.size w w') : bodyPost Tryd.prog Tryd.f3 (fun e w' => e = .returned (.bool true) ∧ Below w.heap.size w w') .ret a w' :=
  bodyPost_ret (v := .bool true) (by simp [results, Tryd.results3, go_sem, h]) hd ⟨rfl, hb⟩
/-- A plan's box that is written anew. -/
def putPl (w : World) (b : Nat) (v0 v1 v2 v3 : Value) : World := (((w.setCell ⟨b, 0, none⟩ v0).setCell ⟨b, 1, none⟩ v1).setCell ⟨b, 2, none⟩ v2).setCell ⟨b, 3, none⟩ v3
theorem putPl_far {w : World} {b j : Nat} {v0 v1 v2 v3 : Value} (h : j ≠ b) : (putPl w b v0 v1 v2 v3).heap[j]? = w.heap[j]? :=
  (blk_far (p := ⟨b, 3, none⟩) h _).trans ((blk_far (p := ⟨b, 2, none⟩) h _).trans ((blk_far (p := ⟨b, 1, none⟩) h _).trans (blk_far (p := ⟨b, 0, none⟩) h _)))
theorem putPl_at {w : World} {b T : Nat} {u0 u1 u2 u3 v0 v1 v2 v3 : Value} (h : w.heap[b]? = some (.cells #[u0, u1, u2, u3] T (0, 0))) : (putPl w b v0 v1 v2 v3).heap[b]? = some (.cells #[v0, v1, v2, v3] T (0, 0)) :=
  blk_set (blk_set (blk_set (blk_set h 0 v0) 1 v1) 2 v2) 3 v3
theorem putPl_below {B : Nat} {w0 w : World} {b : Nat} {v0 v1 v2 v3 : Value} (h : Below B w0 w) (hb : B ≤ b) : Below B w0 (putPl w b v0 v1 v2 v3) :=
  (((h.setCell (p := ⟨b, 0, none⟩) hb _).setCell (p := ⟨b, 1, none⟩) hb _).setCell (p := ⟨b, 2, none⟩) hb _).setCell (p := ⟨b, 3, none⟩) hb _

set_option maxHeartbeats 8000000 in
theorem planBack_walk {w : World} (hf : Forms w) (hnm : Names w) (hd : Desk w) (hp : Parts w) (m : PM) (hm : PlanAt w m) (t : ByteArray) (ht : t.size ≤ 1073741824) :
    Calls Tryd.prog 3 #[.agg #[.slice m.A m.ros.length m.c, .int .i64 m.ticks, .slice m.sA m.spans.length m.sc, .slice m.wA m.wires.length m.wc], .string t] w fun e w' => e = .returned (.bool true) ∧ Below w.heap.size w w' := by
  have HF : Hid (∀ w', Below w.heap.size w w' → Forms w' ∧ Names w' ∧ Desk w' ∧ Parts w') := hid fun w' hb => ⟨hf.new hb, hnm.new hf hb, hd.new hb, hp.new hb⟩
  have HM : Hid (∀ w', Below w.heap.size w w' → PlanAt w' m) := hid fun w' hb => hm.new hb
  have HCK : Hid (∀ w', Below w.heap.size w w' → Calls Tryd.prog 6 #[.agg #[.slice m.A m.ros.length m.c, .int .i64 m.ticks, .slice m.sA m.spans.length m.sc, .slice m.wA m.wires.length m.wc]] w' fun e w'' => e = .returned (errV (planChk m.pl)) ∧ Below w'.heap.size w' w'') := hid fun w' hb => plan_check m w' (hf.new hb) (hm.new hb)
  have HPR : Hid (∀ w', Below w.heap.size w w' → Calls Tryd.prog 5 #[.agg #[.slice m.A m.ros.length m.c, .int .i64 m.ticks, .slice m.sA m.spans.length m.sc, .slice m.wA m.wires.length m.wc]] w' (PPrinted w' m.pl)) := hid fun w' hb => pprint_any m w' (hf.new hb) (hnm.new hf hb) (hd.new hb).pows (hm.new hb)
  have HFACT : Hid (∀ w', Below w.heap.size w w' → Calls Tryd.prog 4 #[.string ⟨#[102, 114, 97, 109, 101, 32, 51, 10, 115, 112, 97, 110, 32, 48, 32, 49, 32, 48, 10, 114, 111, 111, 109, 10, 114, 101, 115, 116, 10]⟩] w' (FactRead w')) := hid fun w' hb => factPl_any w' (hf.new hb) (hnm.new hf hb) (hd.new hb) (hp.new hb)
  have HTX : Hid (∀ w', Below w.heap.size w w' → Calls Tryd.prog 4 #[.string t] w' (TextRead t w')) := hid fun w' hb => textPl_any t ht w' (hf.new hb) (hnm.new hf hb) (hd.new hb) (hp.new hb)
  have HOWN : Hid (planChk m.pl = 0 → ∀ w', Below w.heap.size w w' → Calls Tryd.prog 4 #[txt (planText m.pl)] w' fun e w'' =>
    ∃ m' : PM, m'.pl = m.pl ∧ e = .returned (.tuple #[.agg #[.slice m'.A m'.ros.length m'.c, .int .i64 m'.ticks, .slice m'.sA m'.spans.length m'.sc, .slice m'.wA m'.wires.length m'.wc], .nilIface]) ∧ PlanAt w'' m' ∧ (∀ j, planF m' j → w'.heap.size ≤ j) ∧ Below w'.heap.size w' w'') := hid fun h w' hb => ownPl_any h w' (hf.new hb) (hnm.new hf hb) (hd.new hb) (hp.new hb)
  have HPX : Hid (∀ (mx : PM) w', Below w.heap.size w w' → PlanAt w' mx → planText mx.pl = t.data.toList → planChk mx.pl = 0 → Calls Tryd.prog 5 #[.agg #[.slice mx.A mx.ros.length mx.c, .int .i64 mx.ticks, .slice mx.sA mx.spans.length mx.sc, .slice mx.wA mx.wires.length mx.wc]] w' fun e w'' => e = .returned (.tuple #[.string t, .nilIface]) ∧ Below w'.heap.size w' w'') := hid fun mx w' hb hx htx hcx => by
    have h := pprint_any mx w' (hf.new hb) (hnm.new hf hb) (hd.new hb).pows hx
    unfold PPrinted at h
    rw [if_pos hcx, hcx, errV_zero, htx, txt_of2] at h
    exact h
  have HSAME : Hid (planChk m.pl = 0 → ∀ (m' : PM) w', Below w.heap.size w w' → PlanAt w' m' → m'.pl = m.pl → Calls Tryd.prog 7 #[.agg #[.slice m'.A m'.ros.length m'.c, .int .i64 m'.ticks, .slice m'.sA m'.spans.length m'.sc, .slice m'.wA m'.wires.length m'.wc], .agg #[.slice m.A m.ros.length m.c, .int .i64 m.ticks, .slice m.sA m.spans.length m.sc, .slice m.wA m.wires.length m.wc]] w' fun e w'' => e = .returned (.bool true) ∧ Below w'.heap.size w' w'') := hid fun h m' w' hb hm' hpl => by
    obtain ⟨h1, h2, h3, h4⟩ := plan_small (m := m') (by rw [hpl]; exact h)
    exact same_plan m' m w' hm' (hm.new hb) hpl h1 h2 h3 h4
  obtain ⟨w1, hw1⟩ : ∃ w1, w1 = w.alloc (.cells #[.slice m.A m.ros.length m.c, .int .i64 m.ticks, .slice m.sA m.spans.length m.sc, .slice m.wA m.wires.length m.wc] 26) := ⟨_, rfl⟩
  have hb1 : Below w.heap.size w w1 := by rw [hw1]; exact (Below.refl _ _).alloc (Nat.le_refl _) _
  have hbox : w1.heap[w.heap.size]? = some (.cells #[.slice m.A m.ros.length m.c, .int .i64 m.ticks, .slice m.sA m.spans.length m.sc, .slice m.wA m.wires.length m.wc] 26 (0, 0)) := by rw [hw1]; exact heap_alloc_new w _
  have HV : Hid (∀ w', Below w1.heap.size w1 w' → Below w.heap.size w w') := hid fun w' hb => hb1.trans (hb.mono hb1.size)
  have HBX : Hid (∀ w', Below w1.heap.size w1 w' → w'.heap[w.heap.size]? = some (.cells #[.slice m.A m.ros.length m.c, .int .i64 m.ticks, .slice m.sA m.spans.length m.sc, .slice m.wA m.wires.length m.wc] 26 (0, 0))) := hid fun w' hb => (hb.block _ (blk_lt hbox)).trans hbox
  have HL1 := hid (blk_lt hbox)
  have HB := hid (Below.refl w1.heap.size w1)
  have HB1 := hid hb1
  obtain ⟨E, hE⟩ : ∃ E, E = planChk m.pl := ⟨_, rfl⟩
  obtain ⟨PT, hPT⟩ : ∃ PT, PT = planText m.pl := ⟨_, rfl⟩
  unfold PPrinted at HPR
  rw [← hE] at HCK HPR HOWN HSAME
  rw [← hPT] at HPR HOWN
  obtain ⟨nr, hnr⟩ : ∃ nr, m.ros.length = nr := ⟨_, rfl⟩
  obtain ⟨ns, hns⟩ : ∃ ns, m.spans.length = ns := ⟨_, rfl⟩
  obtain ⟨nw, hnw⟩ : ∃ nw, m.wires.length = nw := ⟨_, rfl⟩
  rw [hnr, hns, hnw] at HCK HPR HSAME HBX hw1 ⊢
  clear hf hnm hd hp hm hb1 hbox hE hPT hnr hns hnw
  go_enter Tryd.func3, Tryd.ntmps3
  go_upto_region 2 with (go_at_call 4; rw [← hw1]; refine (HFACT.out _ HB1.out).mono ?_; rintro e w2 ⟨A2, sA2, wA2, c2, sc2, nw2, wc2, rfl, hb2⟩; replace HB := hid (HB.out.trans (hb2.mono HB.out.size)); clear hb2 hw1)
  go_upto_region 4 with fail
  obtain ⟨w3, hw3⟩ : ∃ w3, w3 = w2.alloc (.cells #[.slice A2 1 c2, .int .i64 3, .slice sA2 1 sc2, .slice wA2 nw2 wc2] 26) := ⟨_, rfl⟩
  have hb3 : Below w1.heap.size w1 w3 := by rw [hw3]; exact HB.out.alloc HB.out.size _
  rw [← hw3]
  replace HB := hid hb3
  clear hw3 hb3
  go_wp2_with fail
  refine (HTX.out _ (HV.out _ HB.out)).mono ?_
  rintro e w4 ⟨hb4, ⟨mx, htx, hcx, rfl, hat⟩ | ⟨k, hk, rfl⟩⟩
  case' inl =>
    replace HB := hid (HB.out.trans (hb4.mono HB.out.size))
    have HL4 : Hid (w1.heap.size ≤ w4.heap.size) := hid HB.out.size
    have hbA := (HB.out.alloc HB.out.size (.cells #[.slice mx.A mx.ros.length mx.c, .int .i64 mx.ticks, .slice mx.sA mx.spans.length mx.sc, .slice mx.wA mx.wires.length mx.wc] 26))
    have HPXX := hid (HPX.out mx _ (HV.out _ hbA) (hat.new ((Below.refl _ _).alloc (Nat.le_refl _) _)) htx hcx)
    have h7 := heap_alloc_new w4 (.cells #[.slice mx.A mx.ros.length mx.c, .int .i64 mx.ticks, .slice mx.sA mx.spans.length mx.sc, .slice mx.wA mx.wires.length mx.wc] 26)
    have H7 := hid h7
    have HBA := hid hbA
    clear hb4 htx hcx hat hbA h7
    go_upto_region 9 with (go_at_call 5; refine HPXX.out.mono ?_; rintro e w6 ⟨rfl, hb6⟩; have HC6 := hid ((hb6.block _ (blk_lt H7.out)).trans H7.out); replace HB := hid (HBA.out.trans (hb6.mono HBA.out.size)); clear hb6 HPXX)
    obtain ⟨u0, hu0⟩ : ∃ u0, u0 = Value.slice mx.A mx.ros.length mx.c := ⟨_, rfl⟩
    obtain ⟨u1, hu1⟩ : ∃ u1, u1 = Value.int .i64 mx.ticks := ⟨_, rfl⟩
    obtain ⟨u2, hu2⟩ : ∃ u2, u2 = Value.slice mx.sA mx.spans.length mx.sc := ⟨_, rfl⟩
    obtain ⟨u3, hu3⟩ : ∃ u3, u3 = Value.slice mx.wA mx.wires.length mx.wc := ⟨_, rfl⟩
    rw [← hu0, ← hu1, ← hu2, ← hu3] at HC6
    clear H7 HBA hu0 hu1 hu2 hu3
  case' inr =>
    replace HB := hid (HB.out.trans (hb4.mono HB.out.size))
    have HL4 : Hid (w1.heap.size ≤ w4.heap.size) := hid HB.out.size
    have hbA := (HB.out.alloc HB.out.size (.cells zeroPl 26))
    have h7 := heap_alloc_new w4 (.cells zeroPl 26)
    unfold zeroPl at h7 hbA ⊢
    rw [errV_pos hk]
    have HC6 := hid h7
    have HBA := hid hbA
    clear hb4 hbA h7
    go_upto_region 9 with fail
    obtain ⟨w6, hw6⟩ : ∃ w6, w6 = w4.alloc (.cells #[.slice none 0 0, .int .i64 0, .slice none 0 0, .slice none 0 0] 26) := ⟨_, rfl⟩
    rw [← hw6] at HC6 HBA ⊢
    replace HB := HBA
    clear hw6 HBA
    obtain ⟨u0, hu0⟩ : ∃ u0, u0 = Value.slice none 0 0 := ⟨_, rfl⟩
    obtain ⟨u1, hu1⟩ : ∃ u1, u1 = Value.int .i64 0 := ⟨_, rfl⟩
    rw [← hu0, ← hu1] at HC6
    obtain ⟨u2, hu2⟩ : ∃ u2, u2 = u0 := ⟨_, rfl⟩
    obtain ⟨u3, hu3⟩ : ∃ u3, u3 = u0 := ⟨_, rfl⟩
    clear hu0 hu1 hu2 hu3
  all_goals
    have hbx := HBX.out w6 HB.out
    have x0 := blk_cell hbx 0
    have x1 := blk_cell hbx 1
    have x2 := blk_cell hbx 2
    have x3 := blk_cell hbx 3
    have hlx := blk_lt hbx
    simp at x0 x1 x2 x3
    clear hbx
    by_cases he : E = 0
    · have HOW := hid (HOWN.out he)
      have HSM := hid (HSAME.out he)
      rw [if_pos he, he, errV_zero] at HPR
      go_upto_region 12 with (go_at_call 5; refine (HPR.out _ (HV.out _ HB.out)).mono ?_; rintro e w7 ⟨rfl, hb7⟩; replace HB := hid (HB.out.trans (hb7.mono HB.out.size)); have HC7 := hid ((hb7.block _ (blk_lt HC6.out)).trans HC6.out); clear hb7 x0 x1 x2 x3 hlx)
      go_wp2_with fail
      refine (HOW.out _ (HV.out _ HB.out)).mono ?_
      rintro e w8 ⟨m', hpl, rfl, hat, hfr, hb8⟩
      have hc8 := (hb8.block _ (blk_lt HC7.out)).trans HC7.out
      replace HB := hid (HB.out.trans (hb8.mono HB.out.size))
      have hbx := HBX.out w8 HB.out
      have hl47 := blk_lt HC7.out
      have hbw : Below w1.heap.size w1 (putPl w8 w4.heap.size (.slice m'.A m'.ros.length m'.c) (.int .i64 m'.ticks) (.slice m'.sA m'.spans.length m'.sc) (.slice m'.wA m'.wires.length m'.wc)) := putPl_below HB.out HL4.out
      have hat9 : PlanAt (putPl w8 w4.heap.size (.slice m'.A m'.ros.length m'.c) (.int .i64 m'.ticks) (.slice m'.sA m'.spans.length m'.sc) (.slice m'.wA m'.wires.length m'.wc)) m' := hat.keep (by unfold putPl; simp only [sz_set]; exact Nat.le_refl _) fun j _ hj => putPl_far (by have := hfr j hj; omega)
      have HSS := hid (HSM.out m' _ (HV.out _ hbw) hat9 hpl)
      have HBW := hid hbw
      unfold putPl at HSS HBW
      have y0 := blk_cell hc8 0
      have y1 := blk_cell hc8 1
      have y2 := blk_cell hc8 2
      have y3 := blk_cell hc8 3
      have yf := fun o => blk_free hc8 o
      have hly := blk_lt hc8
      have x0 := blk_cell hbx 0
      have x1 := blk_cell hbx 1
      have x2 := blk_cell hbx 2
      have x3 := blk_cell hbx 3
      have hlx := blk_lt hbx
      simp at x0 x1 x2 x3 y0 y1 y2 y3
      have hne : w4.heap.size ≠ w.heap.size := by have := HL4.out; have := HL1.out; omega
      clear hat hfr hpl hb8 hc8 hbx hbw hat9 hl47
      go_wp2_with (go_at_call 7; refine HSS.out.mono ?_; rintro e w9 ⟨rfl, hb9⟩; have HB9 := hid (HBW.out.trans (hb9.mono HBW.out.size)); clear hb9 HSS)
      exact planBack_ret rfl rfl (HV.out _ HB9.out)
    · rw [if_neg he, errV_pos he] at HPR
      rw [errV_pos he] at HCK
      go_upto_region 11 with (go_at_call 5; refine (HPR.out _ (HV.out _ HB.out)).mono ?_; rintro e w7 ⟨rfl, hb7⟩; replace HB := hid (HB.out.trans (hb7.mono HB.out.size)); clear hb7 x0 x1 x2 x3 hlx)
      have hbx := HBX.out w7 HB.out
      have x0 := blk_cell hbx 0
      have x1 := blk_cell hbx 1
      have x2 := blk_cell hbx 2
      have x3 := blk_cell hbx 3
      have hlx := blk_lt hbx
      simp at x0 x1 x2 x3
      clear hbx
      go_wp2_with (go_at_call 6; refine (HCK.out _ (HV.out _ HB.out)).mono ?_; rintro e w8 ⟨rfl, hb8⟩; have HB8 := hid (HB.out.trans (hb8.mono HB.out.size)); clear hb8 HCK)
      exact planBack_ret rfl rfl (HV.out _ HB8.out)
end Go.Proofs.YtldllmhgofacbaaDoor
