/- The walk of framelaw2.PurgeTells: it returns true at every input. -/
import Derived.Test.YtongkiccglaniaaDoorPurgeBad
import Derived.Test.YtongkiccglaniaaDoorPurgeU
import Derived.Test.YtongkiccglaniaaDoorRPurge
import Derived.Test.YtongkiccglaniaaDoorRPlanU
import Derived.Test.YtongkiccglaniaaDoorRStates
import Derived.Test.YtongkiccglaniaaDoorSamePlan
import Derived.Test.YtongkiccglaniaaDoorDoorU
import Derived.Deep.DeepCutAuto
import Derived.Deep.CutBlock
namespace Go.Proofs.YtongkiccglaniaaDoor
open Go.RowKit
set_option maxRecDepth 100000
attribute [local go_sem ↓] Go.wp_at_zero Go.wp_at_succ

/-- No plan. -/
def nonePM : PM := ⟨none, 0, [], 0, none, 0, [], none, 0, []⟩
theorem none_plan (w : World) : PlanAt w nonePM :=
  ⟨Sl.nil _ _ _, ⟨Nat.le_refl _, Nat.zero_le _, fun _ => ⟨rfl, rfl⟩⟩, fun r hr => by simp [nonePM] at hr, by constructor <;> decide, Sl.nil _ _ _, ⟨Nat.le_refl _, Nat.zero_le _, fun _ => ⟨rfl, rfl⟩⟩, fun y hy => by simp [nonePM] at hy, Sl.nil _ _ _, ⟨Nat.le_refl _, Nat.zero_le _, fun _ => ⟨rfl, rfl⟩⟩, fun y hy => by simp [nonePM] at hy⟩
theorem none_same (w : World) : Calls Tryd.prog 46 #[.agg #[.slice none 0 0, .int .i64 0, .slice none 0 0, .slice none 0 0], .agg #[.slice none 0 0, .int .i64 0, .slice none 0 0, .slice none 0 0]] w fun e w' => e = .returned (.bool true) ∧ Below w.heap.size w w' :=
  same_plan nonePM nonePM w (none_plan w) (none_plan w) rfl (by decide) (by decide) (by decide) (fun r hr => by simp [nonePM] at hr)
/-- Of what is behind: where it is first. -/
def backAt (f : Nat → Bool) (n u : Nat) (a : Int) : Prop := (a = -1 ∧ ∀ x, u ≤ x → x ≤ n → f x = false) ∨ (∃ y : Nat, a = y ∧ u ≤ y ∧ y ≤ n ∧ f y = true ∧ ∀ x, u ≤ x → x < y → f x = false)
theorem back_start (f : Nat → Bool) (n : Nat) : backAt f n (n + 1) (-1) := .inl ⟨rfl, fun x h1 h2 => by omega⟩
theorem back_next {f : Nat → Bool} {n u : Nat} {a : Int} (h : backAt f n (u + 1) a) (hu : u ≤ n) : backAt f n u (if f u = true then (u : Int) else a) := by
  by_cases hf : f u = true
  · rw [if_pos hf]
    exact .inr ⟨u, rfl, Nat.le_refl _, hu, hf, fun x h1 h2 => by omega⟩
  · rw [if_neg hf]
    have hff : f u = false := by simpa using hf
    rcases h with ⟨h1, h2⟩ | ⟨y, h1, h2, h3, h4, h5⟩
    · refine .inl ⟨h1, fun x hx hn => ?_⟩
      by_cases e : x = u
      · rw [e]; exact hff
      · exact h2 x (by omega) hn
    · refine .inr ⟨y, h1, by omega, h3, h4, fun x hx hy => ?_⟩
      by_cases e : x = u
      · rw [e]; exact hff
      · exact h5 x (by omega) hy
theorem back_end {f : Nat → Bool} {n : Nat} {a : Int} (h : backAt f n 0 a) : firstOf f (n + 1) = a := by
  rcases h with ⟨h1, h2⟩ | ⟨y, h1, _, h3, h4, h5⟩
  · rw [h1]; exact firstOf_none fun j hj => h2 j (by omega) (by omega)
  · rw [h1]; exact firstOf_hit h4 (fun j hj => h5 j (by omega) hj) (by omega)

set_option maxHeartbeats 8000000 in
theorem purgeTells_walk {w : World} (hg : Handle w) (hf : Forms w) (m : PM) (hm : PlanAt w m) (u : PM) (hu : PlanAt w u) (n r : Int) :
    Calls Tryd.prog 13 #[.agg #[.slice m.A m.ros.length m.c, .int .i64 m.ticks, .slice m.sA m.spans.length m.sc, .slice m.wA m.wires.length m.wc], .agg #[.slice u.A u.ros.length u.c, .int .i64 u.ticks, .slice u.sA u.spans.length u.sc, .slice u.wA u.wires.length u.wc], .int .i64 n, .int .i64 r] w fun e w' => e = .returned (.bool true) ∧ Below w.heap.size w w' := by
  have HG := hid hg
  have HF := hid hf
  have HM := hid hm
  have HU := hid hu
  have hlm : m.pl.code.length = m.ros.length := by simp [PM.pl]
  have hlu : u.pl.code.length = u.ros.length := by simp [PM.pl]
  obtain ⟨nn, hnn⟩ : ∃ nn, m.ros.length = nn := ⟨_, rfl⟩
  obtain ⟨ns, hns⟩ : ∃ ns, m.spans.length = ns := ⟨_, rfl⟩
  obtain ⟨nw, hnw⟩ : ∃ nw, m.wires.length = nw := ⟨_, rfl⟩
  obtain ⟨un, hun⟩ : ∃ un, u.ros.length = un := ⟨_, rfl⟩
  obtain ⟨us, hus⟩ : ∃ us, u.spans.length = us := ⟨_, rfl⟩
  obtain ⟨uw, huw⟩ : ∃ uw, u.wires.length = uw := ⟨_, rfl⟩
  obtain ⟨w1, hw1⟩ : ∃ w1, w1 = (w.alloc (.cells #[.slice m.A nn m.c, .int .i64 m.ticks, .slice m.sA ns m.sc, .slice m.wA nw m.wc] 31)).alloc (.cells #[.slice u.A un u.c, .int .i64 u.ticks, .slice u.sA us u.sc, .slice u.wA uw u.wc] 31) := ⟨_, rfl⟩
  have hb1 : Below w.heap.size w w1 := by rw [hw1]; exact ((Below.refl _ _).alloc (Nat.le_refl _) _).alloc (by simp) _
  have hk0 : w1.heap[w.heap.size]? = some (.cells #[.slice m.A nn m.c, .int .i64 m.ticks, .slice m.sA ns m.sc, .slice m.wA nw m.wc] 31 (0, 0)) := by
    rw [hw1]; simp only [hp_alloc, sz_alloc]; repeat (first | rw [if_pos True.intro] | rw [if_pos rfl] | rw [if_neg (by omega)])
  have hk1 : w1.heap[w.heap.size + 1]? = some (.cells #[.slice u.A un u.c, .int .i64 u.ticks, .slice u.sA us u.sc, .slice u.wA uw u.wc] 31 (0, 0)) := by
    rw [hw1]; simp only [hp_alloc, sz_alloc]; repeat (first | rw [if_pos True.intro] | rw [if_pos rfl] | rw [if_neg (by omega)])
  have HX1 : Hid (∀ w', Below w1.heap.size w1 w' → w'.cell? ⟨w.heap.size, 0, none⟩ = some (.slice m.A nn m.c) ∧ w'.cell? ⟨w.heap.size, 1, none⟩ = some (.int .i64 m.ticks) ∧ w'.cell? ⟨w.heap.size, 2, none⟩ = some (.slice m.sA ns m.sc) ∧ w'.cell? ⟨w.heap.size, 3, none⟩ = some (.slice m.wA nw m.wc) ∧ w.heap.size < w'.heap.size) := fun w' hb => by
    have h := (hb.block _ (blk_lt hk0)).trans hk0
    exact ⟨blk_cell h 0, blk_cell h 1, blk_cell h 2, blk_cell h 3, blk_lt h⟩
  have HX2 : Hid (∀ w', Below w1.heap.size w1 w' → w'.cell? ⟨w.heap.size + 1, 0, none⟩ = some (.slice u.A un u.c) ∧ w'.cell? ⟨w.heap.size + 1, 1, none⟩ = some (.int .i64 u.ticks) ∧ w'.cell? ⟨w.heap.size + 1, 2, none⟩ = some (.slice u.sA us u.sc) ∧ w'.cell? ⟨w.heap.size + 1, 3, none⟩ = some (.slice u.wA uw u.wc) ∧ w.heap.size + 1 < w'.heap.size) := fun w' hb => by
    have h := (hb.block _ (blk_lt hk1)).trans hk1
    exact ⟨blk_cell h 0, blk_cell h 1, blk_cell h 2, blk_cell h 3, blk_lt h⟩
  have HRP : Hid (∀ w', Below w.heap.size w w' → Calls Tryd.prog 23 #[.agg #[.slice m.A nn m.c, .int .i64 m.ticks, .slice m.sA ns m.sc, .slice m.wA nw m.wc]] w' (TellV w' (planChk m.pl))) := fun w' hb => by
    have h := rplan_any w' m (hm.new hb)
    rw [hnn, hns, hnw] at h
    exact h
  have HRQ : Hid (∀ w', Below w.heap.size w w' → Calls Tryd.prog 23 #[.agg #[.slice u.A un u.c, .int .i64 u.ticks, .slice u.sA us u.sc, .slice u.wA uw u.wc]] w' (TellV w' (planChk u.pl))) := fun w' hb => by
    have h := rplan_any w' u (hu.new hb)
    rw [hun, hus, huw] at h
    exact h
  unfold TellV at HRP HRQ
  rw [hnn] at hlm
  rw [hun] at hlu
  have HLM := hid hlm
  have HLU := hid hlu
  rw [hnn, hns, hnw, hun, hus, huw]
  have HNN := hid hnn
  have HNS := hid hns
  have HNW := hid hnw
  have HUN := hid hun
  have HUS := hid hus
  have HUW := hid huw
  have HB1 := hid hb1
  clear hg hf hm hu hb1 hk0 hk1 hnn hns hnw hun hus huw hlm hlu
  go_enter Tryd.func13, Tryd.ntmps13
  go_upto_region 1 with fail
  rw [← hw1]
  clear hw1
  go_cut [26] (fun v wx => (∃ b, v = .bool b) ∧ wx = w1)
  case first =>
    as_aux_lemma =>
    by_cases h1 : 200 < n
    · by_cases h2 : n ≤ 2000
      · go_wp2_with fail
        go_meet
        exact ⟨⟨true, rfl⟩, rfl⟩
      · have h3 : ¬ n ≤ 2000 := h2
        go_wp2_with fail
        go_meet
        exact ⟨⟨false, rfl⟩, rfl⟩
    · go_wp2_with fail
      go_meet
      exact ⟨⟨false, rfl⟩, rfl⟩
  obtain ⟨⟨b26, rfl⟩, rfl⟩ := hcut
  obtain ⟨w1, rfl⟩ : ∃ w' : World, w' = wc := ⟨_, rfl⟩
  go_upto_if 26 with fail
  go_cut [2] (fun v2 wx => (∃ N : Int, v2 = .int .i64 N) ∧ wx = w1)
  case first =>
    as_aux_lemma =>
    cases b26 with
    | true =>
      go_wp2_with fail
      go_meet
      exact ⟨⟨_, rfl⟩, rfl⟩
    | false =>
      go_wp2_with fail
      go_meet
      exact ⟨⟨_, rfl⟩, rfl⟩
  obtain ⟨⟨N, rfl⟩, rfl⟩ := hcut
  obtain ⟨w1, rfl⟩ : ∃ w' : World, w' = wc := ⟨_, rfl⟩
  obtain ⟨x0, x1, x2, x3, hlx⟩ := HX1.out _ (Below.refl _ _)
  go_wp2_with fail
  refine (HRP.out _ HB1.out).mono ?_
  clear x0 x1 x2 x3 hlx HRP
  rintro e w2 ⟨rfl, hb2⟩
  have HXB := hid hb2
  have HB2 := hid (HB1.out.trans (hb2.mono HB1.out.size))
  clear hb2
  obtain ⟨E, hE⟩ : ∃ E, planChk m.pl = E := ⟨_, rfl⟩
  rw [hE]
  have HE := hid hE
  clear hE
  obtain ⟨x0, x1, x2, x3, hlx⟩ := HX1.out _ HXB.out
  by_cases hE0 : E = 0
  · have hp0 : planChk m.pl = 0 := HE.out.trans hE0
    by_cases hr : 0 ≤ r ∧ r < nn
    · obtain ⟨R, rfl⟩ : ∃ R : Nat, r = R := ⟨r.toNat, by omega⟩
      have hRn : R < nn := by omega
      have hrp : ∀ w', Below w.heap.size w w' → Calls Tryd.prog 45 #[.agg #[.slice m.A nn m.c, .int .i64 m.ticks, .slice m.sA ns m.sc, .slice m.wA nw m.wc], .int .i64 R] w' (RPurged w' m R) := fun w' hb => by
        have h := rpurge_any w' m R (HM.out.new hb) hp0 (by rw [HNN.out]; exact hRn)
        rw [HNN.out, HNS.out, HNW.out] at h
        exact h
      have hpg : ∀ w', Below w.heap.size w w' → Calls Tryd.prog 42 #[.agg #[.slice m.A nn m.c, .int .i64 m.ticks, .slice m.sA ns m.sc, .slice m.wA nw m.wc], .int .i64 R] w' (Purged w' m R) := fun w' hb => by
        have h := purge_good w' m R (HF.out.new hb) (HM.out.new hb) hp0 (by rw [HNN.out]; exact hRn)
        rw [HNN.out, HNS.out, HNW.out] at h
        exact h
      unfold RPurged at hrp
      unfold Purged at hpg
      have HRPG := hid hrp
      have HPG := hid hpg
      have HSM : Hid (∀ v : PM, v.pl = purgePl m.pl R → PMSmall v) := fun v hv => planSmall (by rw [hv]; exact purge_chk hp0 R)
      have hd1 : decide ((R : Int) < 0) = false := decide_eq_false (by omega)
      have hd2 : decide ((nn : Int) ≤ (R : Int)) = false := decide_eq_false (by omega)
      subst hE0
      clear hrp hpg hp0 hr
      obtain ⟨wz, hwz⟩ : ∃ wz, wz = w2.alloc (.cells #[.slice none 0 0, .int .i64 0, .slice none 0 0, .slice none 0 0] 31) := ⟨_, rfl⟩
      have hbz : Below w2.heap.size w2 wz := by rw [hwz]; exact (Below.refl _ _).alloc (Nat.le_refl _) _
      have hzz : wz.heap[w2.heap.size]? = some (.cells #[.slice none 0 0, .int .i64 0, .slice none 0 0, .slice none 0 0] 31 (0, 0)) := by rw [hwz]; exact heap_alloc_new w2 _
      obtain ⟨zb, hzb⟩ : ∃ zb, zb = w2.heap.size := ⟨_, rfl⟩
      rw [← hzb] at hzz
      have HTryd := hid hzz
      have HBZ := hid hbz
      have HZB := hid hzb
      clear hzz hbz
      go_upto_region 8 with fail
      rw [← hwz, ← hzb]
      clear hwz hzb hd1 hd2 x0 x1 x2 x3 hlx
      obtain ⟨x0, x1, x2, x3, hlx⟩ := HX1.out _ (HXB.out.trans (HBZ.out.mono HXB.out.size))
      go_wp2_with fail
      refine (HRPG.out _ (HB2.out.trans (HBZ.out.mono HB2.out.size))).mono ?_
      rintro e w3 ⟨v, rfl, hv3, hvp, hvf, hb3⟩
      have HVZ : Hid (¬ planF v zb) := fun hj => by
        have h1 := HM.out.lt _ (hvf _ hj (blk_lt HTryd.out))
        have h2 := HB2.out.size
        have h3 := HZB.out
        omega
      have HB3 := hid (HBZ.out.trans (hb3.mono HBZ.out.size))
      have HZ3 := hid ((hb3.block _ (blk_lt HTryd.out)).trans HTryd.out)
      have HV3 := hid hv3
      have HVP := hid hvp
      clear hb3 hv3 hvp hvf x0 x1 x2 x3 hlx
      obtain ⟨v1, hv1⟩ : ∃ v1, v.ros.length = v1 := ⟨_, rfl⟩
      obtain ⟨v2, hv2⟩ : ∃ v2, v.spans.length = v2 := ⟨_, rfl⟩
      obtain ⟨v3, hv3⟩ : ∃ v3, v.wires.length = v3 := ⟨_, rfl⟩
      rw [hv1, hv2, hv3]
      have HV := hid (And.intro hv1 (And.intro hv2 hv3))
      clear hv1 hv2 hv3
      go_wp2_with (refine wpList_store_rowK rfl 31 _ _ rfl zb #[.slice v.A v1 v.c, .int .i64 v.ticks, .slice v.sA v2 v.sc, .slice v.wA v3 v.wc] rfl rfl 31 _ HZ3.out (by kernel_rfl) rfl (by simp [Value.oneCell']) ?_)
      intro w4 hz4 hk4 _
      have HV4 : Hid (PlanAt w4 v ∧ Below w2.heap.size w2 w4) := ⟨HV3.out.keep hk4.size fun j hj hF => hk4.block j hj fun e => by
        subst e
        exact HVZ.out hF, Keep.below (F := NoF) ((Keep.of_below NoF HB3.out).then hk4 fun j hj e => by have := HZB.out; omega) (Nat.le_refl _) (fun _ h => h.elim)⟩
      have HZ4 := hid hz4
      clear hz4 hk4 HB3 HZ3 HV3
      obtain ⟨x0, x1, x2, x3, hlx⟩ := HX1.out _ (HXB.out.trans (HV4.out.2.mono HXB.out.size))
      go_wp2_with fail
      refine (HPG.out _ (HB2.out.trans (HV4.out.2.mono HB2.out.size))).mono ?_
      rintro e w5 ⟨q, rfl, hq5, hqp, _, hb5⟩
      obtain ⟨q1, hq1⟩ : ∃ q1, q.ros.length = q1 := ⟨_, rfl⟩
      obtain ⟨q2, hq2⟩ : ∃ q2, q.spans.length = q2 := ⟨_, rfl⟩
      obtain ⟨q3, hq3⟩ : ∃ q3, q.wires.length = q3 := ⟨_, rfl⟩
      rw [hq1, hq2, hq3]
      have HQ1 := hid (And.intro hq1 (And.intro hq2 hq3))
      obtain ⟨wy, hwy⟩ : ∃ wy, wy = w5.alloc (.cells #[.slice q.A q1 q.c, .int .i64 q.ticks, .slice q.sA q2 q.sc, .slice q.wA q3 q.wc] 31) := ⟨_, rfl⟩
      obtain ⟨yb, hyb⟩ : ∃ yb, yb = w5.heap.size := ⟨_, rfl⟩
      have hby : Below w5.heap.size w5 wy := by rw [hwy]; exact (Below.refl _ _).alloc (Nat.le_refl _) _
      have hyy : wy.heap[yb]? = some (.cells #[.slice q.A q1 q.c, .int .i64 q.ticks, .slice q.sA q2 q.sc, .slice q.wA q3 q.wc] 31 (0, 0)) := by rw [hwy, hyb]; exact heap_alloc_new w5 _
      have HYY := hid hyy
      have HZ5 := hid ((hby.block _ (Nat.lt_of_lt_of_le (blk_lt HZ4.out) hb5.size)).trans ((hb5.block _ (blk_lt HZ4.out)).trans HZ4.out))
      have hb45 := hb5.trans (hby.mono hb5.size)
      have HB5 := hid (HV4.out.2.trans (hb45.mono HV4.out.2.size))
      have HVQ := hid (And.intro (HV4.out.1.new hb45) (hq5.new hby))
      have HQP := hid hqp
      clear hb5 hby hyy x0 x1 x2 x3 hlx hq1 hq2 hq3 hq5 hqp hb45 HV4 HZ4
      go_upto_region 11 with fail
      rw [← hwy, ← hyb]
      clear hwy hyb
      have hsame := error_same 0 wy (HG.out.new (HB2.out.trans (HB5.out.mono HB2.out.size)))
      rw [errV_zero] at hsame
      go_wp2_with fail
      refine hsame.mono ?_
      clear hsame
      rintro e w5' ⟨rfl, hb5'⟩
      have HBY := hid (HB5.out.trans (hb5'.mono HB5.out.size))
      have hy5 := (hb5'.block _ (blk_lt HYY.out)).trans HYY.out
      have hz5 := (hb5'.block _ (blk_lt HZ5.out)).trans HZ5.out
      have y0 := blk_cell hy5 0
      have y1 := blk_cell hy5 1
      have y2 := blk_cell hy5 2
      have y3 := blk_cell hy5 3
      have hly := blk_lt hy5
      have z0 := blk_cell hz5 0
      have z1 := blk_cell hz5 1
      have z2 := blk_cell hz5 2
      have z3 := blk_cell hz5 3
      have hlz := blk_lt hz5
      simp at y0 y1 y2 y3 z0 z1 z2 z3
      have hq := HSM.out q HQP.out
      have hsp := same_plan q v w5' (HVQ.out.2.new hb5') (HVQ.out.1.new hb5') (HQP.out.trans HVP.out.symm) (by have := hq.ros; omega) (by have := hq.spans; omega) (by have := hq.wires; omega) (fun ro hro => by have := hq.ops ro hro; omega)
      rw [HQ1.out.1, HQ1.out.2.1, HQ1.out.2.2, HV.out.1, HV.out.2.1, HV.out.2.2] at hsp
      clear hb5' hy5 hz5 hq
      go_wp2_with fail
      refine hsp.mono ?_
      clear hsp
      rintro e w6 ⟨rfl, hb6⟩
      have HB6 := hid (HBY.out.trans (hb6.mono HBY.out.size))
      clear hb6 y0 y1 y2 y3 hly z0 z1 z2 z3 hlz
      have hd1 : decide ((R : Int) < 0) = false := decide_eq_false (by omega)
      have hd2 : decide ((nn : Int) ≤ (R : Int)) = false := decide_eq_false (by omega)
      obtain ⟨E2, hE2⟩ : ∃ E2, planChk u.pl = E2 := ⟨_, rfl⟩
      have HE2 := hid hE2
      clear hE2
      obtain ⟨v0, v1, v2, v3, hlv⟩ := HX2.out _ (HXB.out.trans (HB6.out.mono HXB.out.size))
      go_wp2_with fail
      refine (HRQ.out _ (HB2.out.trans (HB6.out.mono HB2.out.size))).mono ?_
      rintro e w7 ⟨rfl, hb7⟩
      have HB7 := hid (HB6.out.trans (hb7.mono HB6.out.size))
      clear hb7 v0 v1 v2 v3 hlv
      rw [HE2.out]
      by_cases hq0 : E2 = 0
      · subst hq0
        rcases (show (un : Int) ≤ (R : Int) ∨ ((R : Int) < (un : Int) ∧ N < 0) ∨ ((R : Int) < (un : Int) ∧ 0 ≤ N ∧ 2000 < N) ∨ ((R : Int) < (un : Int) ∧ 0 ≤ N ∧ N ≤ 2000) by omega) with h3 | ⟨h3, h4⟩ | ⟨h3, h4, h5⟩ | ⟨h3, h4, h5⟩
        · have HNE : Hid ((1 : Int) ≠ 0) := hid (by decide)
          have HTWO : Hid (twoE m.pl u.pl N R 1) := .inr (.inr ⟨HE.out, HE2.out, rfl, by rw [HLM.out, HLU.out]; omega⟩)
          have HSB : Hid (∀ w', Below w.heap.size w w' → Calls Tryd.prog 43 #[.agg #[.slice m.A nn m.c, .int .i64 m.ticks, .slice m.sA ns m.sc, .slice m.wA nw m.wc], .agg #[.slice u.A un u.c, .int .i64 u.ticks, .slice u.sA us u.sc, .slice u.wA uw u.wc], .int .i64 N, .int .i64 R] w' (SameV w' 0 1)) := fun w' hb => by
            have h := purgeSame_bad w' m u N R 1 (HF.out.new hb) (HM.out.new hb) (HU.out.new hb) HNE.out HTWO.out
            rw [HNN.out, HNS.out, HNW.out, HUN.out, HUS.out, HUW.out] at h
            exact h
          unfold SameV at HSB
          obtain ⟨x0, x1, x2, x3, hlx⟩ := HX1.out _ (HXB.out.trans (HB7.out.mono HXB.out.size))
          obtain ⟨v0, v1, v2, v3, hlv⟩ := HX2.out _ (HXB.out.trans (HB7.out.mono HXB.out.size))
          go_wp2_with fail
          refine (HSB.out _ (HB2.out.trans (HB7.out.mono HB2.out.size))).mono ?_
          rintro e w8 ⟨rfl, hb8⟩
          have HB8 := hid (HB7.out.trans (hb8.mono HB7.out.size))
          clear hb8 x0 x1 x2 x3 hlx v0 v1 v2 v3 hlv
          go_wp2_with fail
          refine (error_same 1 w8 (HG.out.new (HB2.out.trans (HB8.out.mono HB2.out.size)))).mono ?_
          rintro e w9 ⟨rfl, hb9⟩
          have HB9 := hid (HB8.out.trans (hb9.mono HB8.out.size))
          clear hb9
          go_wp2_with fail
          go_ret
          exact ⟨rfl, HB2.out.trans (HB9.out.mono HB2.out.size)⟩
        · have HNE : Hid ((1 : Int) ≠ 0) := hid (by decide)
          have HTWO : Hid (twoE m.pl u.pl N R 1) := .inr (.inr ⟨HE.out, HE2.out, rfl, by rw [HLM.out, HLU.out]; omega⟩)
          have HSB : Hid (∀ w', Below w.heap.size w w' → Calls Tryd.prog 43 #[.agg #[.slice m.A nn m.c, .int .i64 m.ticks, .slice m.sA ns m.sc, .slice m.wA nw m.wc], .agg #[.slice u.A un u.c, .int .i64 u.ticks, .slice u.sA us u.sc, .slice u.wA uw u.wc], .int .i64 N, .int .i64 R] w' (SameV w' 0 1)) := fun w' hb => by
            have h := purgeSame_bad w' m u N R 1 (HF.out.new hb) (HM.out.new hb) (HU.out.new hb) HNE.out HTWO.out
            rw [HNN.out, HNS.out, HNW.out, HUN.out, HUS.out, HUW.out] at h
            exact h
          unfold SameV at HSB
          obtain ⟨x0, x1, x2, x3, hlx⟩ := HX1.out _ (HXB.out.trans (HB7.out.mono HXB.out.size))
          obtain ⟨v0, v1, v2, v3, hlv⟩ := HX2.out _ (HXB.out.trans (HB7.out.mono HXB.out.size))
          go_wp2_with fail
          refine (HSB.out _ (HB2.out.trans (HB7.out.mono HB2.out.size))).mono ?_
          rintro e w8 ⟨rfl, hb8⟩
          have HB8 := hid (HB7.out.trans (hb8.mono HB7.out.size))
          clear hb8 x0 x1 x2 x3 hlx v0 v1 v2 v3 hlv
          go_wp2_with fail
          refine (error_same 1 w8 (HG.out.new (HB2.out.trans (HB8.out.mono HB2.out.size)))).mono ?_
          rintro e w9 ⟨rfl, hb9⟩
          have HB9 := hid (HB8.out.trans (hb9.mono HB8.out.size))
          clear hb9
          go_wp2_with fail
          go_ret
          exact ⟨rfl, HB2.out.trans (HB9.out.mono HB2.out.size)⟩
        · have HNE : Hid ((1 : Int) ≠ 0) := hid (by decide)
          have HTWO : Hid (twoE m.pl u.pl N R 1) := .inr (.inr ⟨HE.out, HE2.out, rfl, by rw [HLM.out, HLU.out]; omega⟩)
          have HSB : Hid (∀ w', Below w.heap.size w w' → Calls Tryd.prog 43 #[.agg #[.slice m.A nn m.c, .int .i64 m.ticks, .slice m.sA ns m.sc, .slice m.wA nw m.wc], .agg #[.slice u.A un u.c, .int .i64 u.ticks, .slice u.sA us u.sc, .slice u.wA uw u.wc], .int .i64 N, .int .i64 R] w' (SameV w' 0 1)) := fun w' hb => by
            have h := purgeSame_bad w' m u N R 1 (HF.out.new hb) (HM.out.new hb) (HU.out.new hb) HNE.out HTWO.out
            rw [HNN.out, HNS.out, HNW.out, HUN.out, HUS.out, HUW.out] at h
            exact h
          unfold SameV at HSB
          obtain ⟨x0, x1, x2, x3, hlx⟩ := HX1.out _ (HXB.out.trans (HB7.out.mono HXB.out.size))
          obtain ⟨v0, v1, v2, v3, hlv⟩ := HX2.out _ (HXB.out.trans (HB7.out.mono HXB.out.size))
          go_wp2_with fail
          refine (HSB.out _ (HB2.out.trans (HB7.out.mono HB2.out.size))).mono ?_
          rintro e w8 ⟨rfl, hb8⟩
          have HB8 := hid (HB7.out.trans (hb8.mono HB7.out.size))
          clear hb8 x0 x1 x2 x3 hlx v0 v1 v2 v3 hlv
          go_wp2_with fail
          refine (error_same 1 w8 (HG.out.new (HB2.out.trans (HB8.out.mono HB2.out.size)))).mono ?_
          rintro e w9 ⟨rfl, hb9⟩
          have HB9 := hid (HB8.out.trans (hb9.mono HB8.out.size))
          clear hb9
          go_wp2_with fail
          go_ret
          exact ⟨rfl, HB2.out.trans (HB9.out.mono HB2.out.size)⟩
        · have HTT : Hid (sameAt m.pl u.pl R N.toNat = sameAt m.pl u.pl R N.toNat) := rfl
          obtain ⟨N, rfl⟩ : ∃ M : Nat, N = M := ⟨N.toNat, by omega⟩
          have hN : N ≤ 2000 := by omega
          have hRu : R < un := by omega
          have hst1 : ∀ w', Below w.heap.size w w' → Calls Tryd.prog 47 #[.agg #[.slice m.A nn m.c, .int .i64 m.ticks, .slice m.sA ns m.sc, .slice m.wA nw m.wc], .int .i64 N, .int .i64 R] w' (RStates w' m.pl R N) := fun w' hb => by
            have h := rstates_any w' m N R (HM.out.new hb) HE.out hN (by rw [HNN.out]; exact hRn)
            rw [HNN.out, HNS.out, HNW.out] at h
            exact h
          have hst2 : ∀ w', Below w.heap.size w w' → Calls Tryd.prog 47 #[.agg #[.slice u.A un u.c, .int .i64 u.ticks, .slice u.sA us u.sc, .slice u.wA uw u.wc], .int .i64 N, .int .i64 R] w' (RStates w' u.pl R N) := fun w' hb => by
            have h := rstates_any w' u N R (HU.out.new hb) HE2.out hN (by rw [HUN.out]; exact hRu)
            rw [HUN.out, HUS.out, HUW.out] at h
            exact h
          have hsg : ∀ w', Below w.heap.size w w' → Calls Tryd.prog 43 #[.agg #[.slice m.A nn m.c, .int .i64 m.ticks, .slice m.sA ns m.sc, .slice m.wA nw m.wc], .agg #[.slice u.A un u.c, .int .i64 u.ticks, .slice u.sA us u.sc, .slice u.wA uw u.wc], .int .i64 N, .int .i64 R] w' (SameV w' (sameAt m.pl u.pl R N) 0) := fun w' hb => by
            have h := purgeSame_good w' m u N R (HF.out.new hb) (HM.out.new hb) (HU.out.new hb) HE.out HE2.out hN (by rw [HNN.out]; exact hRn) (by rw [HUN.out]; exact hRu)
            rw [HNN.out, HNS.out, HNW.out, HUN.out, HUS.out, HUW.out] at h
            exact h
          unfold RStates at hst1 hst2
          unfold SameV sameAt at hsg
          have HST1 := hid hst1
          have HST2 := hid hst2
          have HSG := hid hsg
          clear hst1 hst2 hsg HTT
          obtain ⟨x0, x1, x2, x3, hlx⟩ := HX1.out _ (HXB.out.trans (HB7.out.mono HXB.out.size))
          obtain ⟨v0, v1', v2', v3', hlv⟩ := HX2.out _ (HXB.out.trans (HB7.out.mono HXB.out.size))
          have hd3 : decide ((un : Int) ≤ (R : Int)) = false := decide_eq_false (by omega)
          have hd4 : decide ((N : Int) < 0) = false := decide_eq_false (by omega)
          have hd5 : decide (2000 < (N : Int)) = false := decide_eq_false (by omega)
          go_wp2_with fail
          refine (HST1.out _ (HB2.out.trans (HB7.out.mono HB2.out.size))).mono ?_
          rintro e w8 ⟨A8, c8, rfl, hr8, hb8⟩
          have HB8 := hid (HB7.out.trans (hb8.mono HB7.out.size))
          have HR8 := hid hr8
          clear hb8 hr8 x0 x1 x2 x3 hlx v0 v1' v2' v3' hlv hd3 hd4 hd5
          obtain ⟨v0, v1', v2', v3', hlv⟩ := HX2.out _ (HXB.out.trans (HB8.out.mono HXB.out.size))
          go_wp2_with fail
          refine (HST2.out _ (HB2.out.trans (HB8.out.mono HB2.out.size))).mono ?_
          rintro e w9 ⟨A9, c9, rfl, hr9, hb9⟩
          have HB9 := hid (HB8.out.trans (hb9.mono HB8.out.size))
          have HR9 := hid hr9
          have HRX := hid (HR8.out.new hb9)
          clear hb9 hr9 v0 v1' v2' v3' hlv HR8
          go_wp2_with fail
          go_loopw [15, 18] (fun v15 v18 wr => ∃ (x : Nat) (a : Int), x ≤ N + 1 ∧ v15 = .int .i64 a ∧ v18 = .int .i64 ((x : Int) - 1) ∧ Below w9.heap.size w9 wr ∧ backAt (fun t => !stEq (stAtT m.pl R t) (stAtT u.pl R t)) N x a) (fun _ v18 _ => (intOf v18 + 1).toNat)
          case atStart => exact ⟨N + 1, -1, Nat.le_refl _, rfl, by congr 1; omega, Below.refl _ _, back_start _ _⟩
          case round =>
            obtain ⟨wo, rfl⟩ : ∃ wo : World, wo = wr := ⟨_, rfl⟩
            obtain ⟨x, a, hx, rfl, rfl, hbo, hback⟩ := hrel
            have HBO := hid hbo
            have HBK := hid hback
            clear hback
            cases x with
            | zero =>
              have hend := back_end HBK.out
              have HEND := hid hend
              have hneg : ((0 : Nat) : Int) - 1 = -1 := by decide
              rw [hneg]
              have HB10 := hid (HB9.out.trans (hbo.mono HB9.out.size))
              clear hend hbo hneg hx
              obtain ⟨x0, x1, x2, x3, hlx⟩ := HX1.out _ (HXB.out.trans (HB10.out.mono HXB.out.size))
              obtain ⟨v0, v1', v2', v3', hlv⟩ := HX2.out _ (HXB.out.trans (HB10.out.mono HXB.out.size))
              go_wp2_with fail
              refine (HSG.out _ (HB2.out.trans (HB10.out.mono HB2.out.size))).mono ?_
              rw [HEND.out, errV_zero]
              rintro e w11 ⟨rfl, hb11⟩
              have HB11 := hid (HB10.out.trans (hb11.mono HB10.out.size))
              clear hb11 x0 x1 x2 x3 hlx v0 v1' v2' v3' hlv
              have hsame := error_same 0 w11 (HG.out.new (HB2.out.trans (HB11.out.mono HB2.out.size)))
              rw [errV_zero] at hsame
              go_wp2_with fail
              refine hsame.mono ?_
              clear hsame
              rintro e w12 ⟨rfl, hb12⟩
              have HB12 := hid (HB11.out.trans (hb12.mono HB11.out.size))
              clear hb12
              go_wp2_with fail
              go_ret
              exact ⟨rfl, HB2.out.trans (HB12.out.mono HB2.out.size)⟩
            | succ y =>
              have e1 : ((y + 1 : Nat) : Int) - 1 = (y : Int) := by omega
              rw [e1]
              obtain ⟨b3, o3, rfl, ⟨x0, x1, x2, x3, x4, x5, x6, x7⟩, hl3, hn3, hc3⟩ := states_get (HRX.out.new hbo) (show y < N + 1 by omega)
              obtain ⟨b4, o4, rfl, ⟨y0, y1, y2, y3, y4, y5, y6, y7⟩, hl4, hn4, hc4⟩ := states_get (HR9.out.new hbo) (show y < N + 1 by omega)
              have hneq : ∀ w, _ := fun w => state_neq (stAtT m.pl R y) (stAtT u.pl R y) w
              have hgd := state_guard
              have hbn := back_next HBK.out (show y ≤ N by omega)
              obtain ⟨z, hz⟩ : ∃ z, z = !stEq (stAtT m.pl R y) (stAtT u.pl R y) := ⟨_, rfl⟩
              rw [← hz] at hneq hbn
              have HBN := hid hbn
              generalize stAtT m.pl R y = sx at x0 x1 x2 x3 x4 x5 x6 x7 hneq
              generalize stAtT u.pl R y = sy at y0 y1 y2 y3 y4 y5 y6 y7 hneq
              obtain ⟨px, a0, a1, a2, a3, a4, a5, fx⟩ := sx
              obtain ⟨py, d0, d1, d2, d3, d4, d5, fy⟩ := sy
              simp only [] at x0 x1 x2 x3 x4 x5 x6 x7 y0 y1 y2 y3 y4 y5 y6 y7 hneq
              unfold maxLen at hc3 hc4
              have hy0 : (0 : Int) ≤ (y : Int) := by omega
              have hyN : (y : Int) < ((N + 1 : Nat) : Int) := by omega
              have hyl : y < N + 1 := by omega
              clear hz hbn e1
              cases z with
              | true =>
                go_wp2_with fail
                go_quiet (fail)
                go_wp2_with fail
                go_roundw
                case rel => exact ⟨y, _, by omega, rfl, by go_num, below_drawn HBO.out _, by have h := HBN.out; simp only [if_true] at h; exact h⟩
                case measure => simp [intOf]
              | false =>
                go_wp2_with fail
                go_quiet (fail)
                go_wp2_with fail
                go_roundw
                case rel => exact ⟨y, _, by omega, rfl, by go_num, below_drawn HBO.out _, by have h := HBN.out; rw [if_neg (by decide)] at h; exact h⟩
                case measure => simp [intOf]
      · have HNE := hid hq0
        have HTWO : Hid (twoE m.pl u.pl N R E2) := .inr (.inl ⟨HE.out, by rw [HE2.out]; exact hq0, HE2.out.symm⟩)
        have hdq : (E2 == 0) = false := by simpa using hq0
        clear hq0
        have HSB : Hid (∀ w', Below w.heap.size w w' → Calls Tryd.prog 43 #[.agg #[.slice m.A nn m.c, .int .i64 m.ticks, .slice m.sA ns m.sc, .slice m.wA nw m.wc], .agg #[.slice u.A un u.c, .int .i64 u.ticks, .slice u.sA us u.sc, .slice u.wA uw u.wc], .int .i64 N, .int .i64 R] w' (SameV w' 0 E2)) := fun w' hb => by
          have h := purgeSame_bad w' m u N R E2 (HF.out.new hb) (HM.out.new hb) (HU.out.new hb) HNE.out HTWO.out
          rw [HNN.out, HNS.out, HNW.out, HUN.out, HUS.out, HUW.out] at h
          exact h
        unfold SameV at HSB
        obtain ⟨x0, x1, x2, x3, hlx⟩ := HX1.out _ (HXB.out.trans (HB7.out.mono HXB.out.size))
        obtain ⟨v0, v1, v2, v3, hlv⟩ := HX2.out _ (HXB.out.trans (HB7.out.mono HXB.out.size))
        go_wp2_with fail
        refine (HSB.out _ (HB2.out.trans (HB7.out.mono HB2.out.size))).mono ?_
        rintro e w8 ⟨rfl, hb8⟩
        have HB8 := hid (HB7.out.trans (hb8.mono HB7.out.size))
        clear hb8 x0 x1 x2 x3 hlx v0 v1 v2 v3 hlv
        go_wp2_with fail
        refine (error_same E2 w8 (HG.out.new (HB2.out.trans (HB8.out.mono HB2.out.size)))).mono ?_
        rintro e w9 ⟨rfl, hb9⟩
        have HB9 := hid (HB8.out.trans (hb9.mono HB8.out.size))
        clear hb9
        go_wp2_with fail
        go_ret
        exact ⟨rfl, HB2.out.trans (HB9.out.mono HB2.out.size)⟩
    · have HPG : Hid (∀ w', Below w.heap.size w w' → Calls Tryd.prog 42 #[.agg #[.slice m.A nn m.c, .int .i64 m.ticks, .slice m.sA ns m.sc, .slice m.wA nw m.wc], .int .i64 r] w' fun e w'' => e = .returned (.tuple #[.agg #[.slice none 0 0, .int .i64 0, .slice none 0 0, .slice none 0 0], errV 1]) ∧ Below w'.heap.size w' w'') := fun w' hb => by
        have h := purge_range w' m r (HF.out.new hb) (HM.out.new hb) hp0 (by rw [HNN.out]; omega)
        rw [HNN.out, HNS.out, HNW.out] at h
        first | exact h | (rw [errV_pos (by decide)]; exact h)
      subst hE0
      have hor : r < 0 ∨ (0 ≤ r ∧ (nn : Int) ≤ r) := by omega
      clear hp0 hr
      rcases hor with h1 | ⟨h1, h2⟩
      · obtain ⟨wz, hwz⟩ : ∃ wz, wz = w2.alloc (.cells #[.slice none 0 0, .int .i64 0, .slice none 0 0, .slice none 0 0] 31) := ⟨_, rfl⟩
        have hbz : Below w2.heap.size w2 wz := by rw [hwz]; exact (Below.refl _ _).alloc (Nat.le_refl _) _
        have hzz : wz.heap[w2.heap.size]? = some (.cells #[.slice none 0 0, .int .i64 0, .slice none 0 0, .slice none 0 0] 31 (0, 0)) := by rw [hwz]; exact heap_alloc_new w2 _
        obtain ⟨zb, hzb⟩ : ∃ zb, zb = w2.heap.size := ⟨_, rfl⟩
        rw [← hzb] at hzz
        have HTryd := hid hzz
        have HBZ := hid hbz
        clear hzz hbz
        go_upto_region 8 with fail
        rw [← hwz, ← hzb]
        clear hwz hzb x0 x1 x2 x3 hlx
        obtain ⟨x0, x1, x2, x3, hlx⟩ := HX1.out _ (HXB.out.trans (HBZ.out.mono HXB.out.size))
        go_wp2_with fail
        refine (HPG.out _ (HB2.out.trans (HBZ.out.mono HB2.out.size))).mono ?_
        rintro e w3 ⟨rfl, hb3⟩
        have HB3 := hid (HBZ.out.trans (hb3.mono HBZ.out.size))
        have hz3 := (hb3.block _ (blk_lt HTryd.out)).trans HTryd.out
        obtain ⟨wy, hwy⟩ : ∃ wy, wy = w3.alloc (.cells #[.slice none 0 0, .int .i64 0, .slice none 0 0, .slice none 0 0] 31) := ⟨_, rfl⟩
        obtain ⟨yb, hyb⟩ : ∃ yb, yb = w3.heap.size := ⟨_, rfl⟩
        have hby : Below w3.heap.size w3 wy := by rw [hwy]; exact (Below.refl _ _).alloc (Nat.le_refl _) _
        have hyy : wy.heap[yb]? = some (.cells #[.slice none 0 0, .int .i64 0, .slice none 0 0, .slice none 0 0] 31 (0, 0)) := by rw [hwy, hyb]; exact heap_alloc_new w3 _
        have HYY := hid hyy
        have HZ4 := hid ((hby.block _ (blk_lt hz3)).trans hz3)
        have HB4 := hid (HB3.out.trans (hby.mono HB3.out.size))
        clear hb3 hz3 hby hyy x0 x1 x2 x3 hlx
        go_upto_region 11 with fail
        rw [← hwy, ← hyb]
        clear hwy hyb
        go_wp2_with fail
        refine (error_same 1 wy (HG.out.new (HB2.out.trans (HB4.out.mono HB2.out.size)))).mono ?_
        rintro e w5 ⟨rfl, hb5⟩
        have HB5 := hid (HB4.out.trans (hb5.mono HB4.out.size))
        have hy5 := (hb5.block _ (blk_lt HYY.out)).trans HYY.out
        have hz5 := (hb5.block _ (blk_lt HZ4.out)).trans HZ4.out
        have y0 := blk_cell hy5 0
        have y1 := blk_cell hy5 1
        have y2 := blk_cell hy5 2
        have y3 := blk_cell hy5 3
        have hly := blk_lt hy5
        have z0 := blk_cell hz5 0
        have z1 := blk_cell hz5 1
        have z2 := blk_cell hz5 2
        have z3 := blk_cell hz5 3
        have hlz := blk_lt hz5
        simp at y0 y1 y2 y3 z0 z1 z2 z3
        clear hb5 hy5 hz5
        go_wp2_with fail
        refine (none_same w5).mono ?_
        rintro e w6 ⟨rfl, hb6⟩
        have HB6 := hid (HB5.out.trans (hb6.mono HB5.out.size))
        clear hb6 y0 y1 y2 y3 hly z0 z1 z2 z3 hlz
        obtain ⟨E2, hE2⟩ : ∃ E2, planChk u.pl = E2 := ⟨_, rfl⟩
        have HE2 := hid hE2
        clear hE2
        obtain ⟨v0, v1, v2, v3, hlv⟩ := HX2.out _ (HXB.out.trans (HB6.out.mono HXB.out.size))
        go_wp2_with fail
        refine (HRQ.out _ (HB2.out.trans (HB6.out.mono HB2.out.size))).mono ?_
        rintro e w7 ⟨rfl, hb7⟩
        have HB7 := hid (HB6.out.trans (hb7.mono HB6.out.size))
        clear hb7 v0 v1 v2 v3 hlv
        rw [HE2.out]
        by_cases hq0 : E2 = 0
        · subst hq0
          rcases (show r < 0 by omega) with h1
          · have HNE : Hid ((1 : Int) ≠ 0) := hid (by decide)
            have HTWO : Hid (twoE m.pl u.pl N r 1) := .inr (.inr ⟨HE.out, HE2.out, rfl, by rw [HLM.out, HLU.out]; omega⟩)
            have HSB : Hid (∀ w', Below w.heap.size w w' → Calls Tryd.prog 43 #[.agg #[.slice m.A nn m.c, .int .i64 m.ticks, .slice m.sA ns m.sc, .slice m.wA nw m.wc], .agg #[.slice u.A un u.c, .int .i64 u.ticks, .slice u.sA us u.sc, .slice u.wA uw u.wc], .int .i64 N, .int .i64 r] w' (SameV w' 0 1)) := fun w' hb => by
              have h := purgeSame_bad w' m u N r 1 (HF.out.new hb) (HM.out.new hb) (HU.out.new hb) HNE.out HTWO.out
              rw [HNN.out, HNS.out, HNW.out, HUN.out, HUS.out, HUW.out] at h
              exact h
            unfold SameV at HSB
            obtain ⟨x0, x1, x2, x3, hlx⟩ := HX1.out _ (HXB.out.trans (HB7.out.mono HXB.out.size))
            obtain ⟨v0, v1, v2, v3, hlv⟩ := HX2.out _ (HXB.out.trans (HB7.out.mono HXB.out.size))
            go_wp2_with fail
            refine (HSB.out _ (HB2.out.trans (HB7.out.mono HB2.out.size))).mono ?_
            rintro e w8 ⟨rfl, hb8⟩
            have HB8 := hid (HB7.out.trans (hb8.mono HB7.out.size))
            clear hb8 x0 x1 x2 x3 hlx v0 v1 v2 v3 hlv
            go_wp2_with fail
            refine (error_same 1 w8 (HG.out.new (HB2.out.trans (HB8.out.mono HB2.out.size)))).mono ?_
            rintro e w9 ⟨rfl, hb9⟩
            have HB9 := hid (HB8.out.trans (hb9.mono HB8.out.size))
            clear hb9
            go_wp2_with fail
            go_ret
            exact ⟨rfl, HB2.out.trans (HB9.out.mono HB2.out.size)⟩
        · have HNE := hid hq0
          have HTWO : Hid (twoE m.pl u.pl N r E2) := .inr (.inl ⟨HE.out, by rw [HE2.out]; exact hq0, HE2.out.symm⟩)
          have hdq : (E2 == 0) = false := by simpa using hq0
          clear hq0
          have HSB : Hid (∀ w', Below w.heap.size w w' → Calls Tryd.prog 43 #[.agg #[.slice m.A nn m.c, .int .i64 m.ticks, .slice m.sA ns m.sc, .slice m.wA nw m.wc], .agg #[.slice u.A un u.c, .int .i64 u.ticks, .slice u.sA us u.sc, .slice u.wA uw u.wc], .int .i64 N, .int .i64 r] w' (SameV w' 0 E2)) := fun w' hb => by
            have h := purgeSame_bad w' m u N r E2 (HF.out.new hb) (HM.out.new hb) (HU.out.new hb) HNE.out HTWO.out
            rw [HNN.out, HNS.out, HNW.out, HUN.out, HUS.out, HUW.out] at h
            exact h
          unfold SameV at HSB
          obtain ⟨x0, x1, x2, x3, hlx⟩ := HX1.out _ (HXB.out.trans (HB7.out.mono HXB.out.size))
          obtain ⟨v0, v1, v2, v3, hlv⟩ := HX2.out _ (HXB.out.trans (HB7.out.mono HXB.out.size))
          go_wp2_with fail
          refine (HSB.out _ (HB2.out.trans (HB7.out.mono HB2.out.size))).mono ?_
          rintro e w8 ⟨rfl, hb8⟩
          have HB8 := hid (HB7.out.trans (hb8.mono HB7.out.size))
          clear hb8 x0 x1 x2 x3 hlx v0 v1 v2 v3 hlv
          go_wp2_with fail
          refine (error_same E2 w8 (HG.out.new (HB2.out.trans (HB8.out.mono HB2.out.size)))).mono ?_
          rintro e w9 ⟨rfl, hb9⟩
          have HB9 := hid (HB8.out.trans (hb9.mono HB8.out.size))
          clear hb9
          go_wp2_with fail
          go_ret
          exact ⟨rfl, HB2.out.trans (HB9.out.mono HB2.out.size)⟩
      · obtain ⟨wz, hwz⟩ : ∃ wz, wz = w2.alloc (.cells #[.slice none 0 0, .int .i64 0, .slice none 0 0, .slice none 0 0] 31) := ⟨_, rfl⟩
        have hbz : Below w2.heap.size w2 wz := by rw [hwz]; exact (Below.refl _ _).alloc (Nat.le_refl _) _
        have hzz : wz.heap[w2.heap.size]? = some (.cells #[.slice none 0 0, .int .i64 0, .slice none 0 0, .slice none 0 0] 31 (0, 0)) := by rw [hwz]; exact heap_alloc_new w2 _
        obtain ⟨zb, hzb⟩ : ∃ zb, zb = w2.heap.size := ⟨_, rfl⟩
        rw [← hzb] at hzz
        have HTryd := hid hzz
        have HBZ := hid hbz
        clear hzz hbz
        go_upto_region 8 with fail
        rw [← hwz, ← hzb]
        clear hwz hzb x0 x1 x2 x3 hlx
        obtain ⟨x0, x1, x2, x3, hlx⟩ := HX1.out _ (HXB.out.trans (HBZ.out.mono HXB.out.size))
        go_wp2_with fail
        refine (HPG.out _ (HB2.out.trans (HBZ.out.mono HB2.out.size))).mono ?_
        rintro e w3 ⟨rfl, hb3⟩
        have HB3 := hid (HBZ.out.trans (hb3.mono HBZ.out.size))
        have hz3 := (hb3.block _ (blk_lt HTryd.out)).trans HTryd.out
        obtain ⟨wy, hwy⟩ : ∃ wy, wy = w3.alloc (.cells #[.slice none 0 0, .int .i64 0, .slice none 0 0, .slice none 0 0] 31) := ⟨_, rfl⟩
        obtain ⟨yb, hyb⟩ : ∃ yb, yb = w3.heap.size := ⟨_, rfl⟩
        have hby : Below w3.heap.size w3 wy := by rw [hwy]; exact (Below.refl _ _).alloc (Nat.le_refl _) _
        have hyy : wy.heap[yb]? = some (.cells #[.slice none 0 0, .int .i64 0, .slice none 0 0, .slice none 0 0] 31 (0, 0)) := by rw [hwy, hyb]; exact heap_alloc_new w3 _
        have HYY := hid hyy
        have HZ4 := hid ((hby.block _ (blk_lt hz3)).trans hz3)
        have HB4 := hid (HB3.out.trans (hby.mono HB3.out.size))
        clear hb3 hz3 hby hyy x0 x1 x2 x3 hlx
        go_upto_region 11 with fail
        rw [← hwy, ← hyb]
        clear hwy hyb
        go_wp2_with fail
        refine (error_same 1 wy (HG.out.new (HB2.out.trans (HB4.out.mono HB2.out.size)))).mono ?_
        rintro e w5 ⟨rfl, hb5⟩
        have HB5 := hid (HB4.out.trans (hb5.mono HB4.out.size))
        have hy5 := (hb5.block _ (blk_lt HYY.out)).trans HYY.out
        have hz5 := (hb5.block _ (blk_lt HZ4.out)).trans HZ4.out
        have y0 := blk_cell hy5 0
        have y1 := blk_cell hy5 1
        have y2 := blk_cell hy5 2
        have y3 := blk_cell hy5 3
        have hly := blk_lt hy5
        have z0 := blk_cell hz5 0
        have z1 := blk_cell hz5 1
        have z2 := blk_cell hz5 2
        have z3 := blk_cell hz5 3
        have hlz := blk_lt hz5
        simp at y0 y1 y2 y3 z0 z1 z2 z3
        clear hb5 hy5 hz5
        go_wp2_with fail
        refine (none_same w5).mono ?_
        rintro e w6 ⟨rfl, hb6⟩
        have HB6 := hid (HB5.out.trans (hb6.mono HB5.out.size))
        clear hb6 y0 y1 y2 y3 hly z0 z1 z2 z3 hlz
        obtain ⟨E2, hE2⟩ : ∃ E2, planChk u.pl = E2 := ⟨_, rfl⟩
        have HE2 := hid hE2
        clear hE2
        obtain ⟨v0, v1, v2, v3, hlv⟩ := HX2.out _ (HXB.out.trans (HB6.out.mono HXB.out.size))
        go_wp2_with fail
        refine (HRQ.out _ (HB2.out.trans (HB6.out.mono HB2.out.size))).mono ?_
        rintro e w7 ⟨rfl, hb7⟩
        have HB7 := hid (HB6.out.trans (hb7.mono HB6.out.size))
        clear hb7 v0 v1 v2 v3 hlv
        rw [HE2.out]
        by_cases hq0 : E2 = 0
        · subst hq0
          rcases (show (nn : Int) ≤ r by omega) with h2
          · have HNE : Hid ((1 : Int) ≠ 0) := hid (by decide)
            have HTWO : Hid (twoE m.pl u.pl N r 1) := .inr (.inr ⟨HE.out, HE2.out, rfl, by rw [HLM.out, HLU.out]; omega⟩)
            have HSB : Hid (∀ w', Below w.heap.size w w' → Calls Tryd.prog 43 #[.agg #[.slice m.A nn m.c, .int .i64 m.ticks, .slice m.sA ns m.sc, .slice m.wA nw m.wc], .agg #[.slice u.A un u.c, .int .i64 u.ticks, .slice u.sA us u.sc, .slice u.wA uw u.wc], .int .i64 N, .int .i64 r] w' (SameV w' 0 1)) := fun w' hb => by
              have h := purgeSame_bad w' m u N r 1 (HF.out.new hb) (HM.out.new hb) (HU.out.new hb) HNE.out HTWO.out
              rw [HNN.out, HNS.out, HNW.out, HUN.out, HUS.out, HUW.out] at h
              exact h
            unfold SameV at HSB
            obtain ⟨x0, x1, x2, x3, hlx⟩ := HX1.out _ (HXB.out.trans (HB7.out.mono HXB.out.size))
            obtain ⟨v0, v1, v2, v3, hlv⟩ := HX2.out _ (HXB.out.trans (HB7.out.mono HXB.out.size))
            go_wp2_with fail
            refine (HSB.out _ (HB2.out.trans (HB7.out.mono HB2.out.size))).mono ?_
            rintro e w8 ⟨rfl, hb8⟩
            have HB8 := hid (HB7.out.trans (hb8.mono HB7.out.size))
            clear hb8 x0 x1 x2 x3 hlx v0 v1 v2 v3 hlv
            go_wp2_with fail
            refine (error_same 1 w8 (HG.out.new (HB2.out.trans (HB8.out.mono HB2.out.size)))).mono ?_
            rintro e w9 ⟨rfl, hb9⟩
            have HB9 := hid (HB8.out.trans (hb9.mono HB8.out.size))
            clear hb9
            go_wp2_with fail
            go_ret
            exact ⟨rfl, HB2.out.trans (HB9.out.mono HB2.out.size)⟩
        · have HNE := hid hq0
          have HTWO : Hid (twoE m.pl u.pl N r E2) := .inr (.inl ⟨HE.out, by rw [HE2.out]; exact hq0, HE2.out.symm⟩)
          have hdq : (E2 == 0) = false := by simpa using hq0
          clear hq0
          have HSB : Hid (∀ w', Below w.heap.size w w' → Calls Tryd.prog 43 #[.agg #[.slice m.A nn m.c, .int .i64 m.ticks, .slice m.sA ns m.sc, .slice m.wA nw m.wc], .agg #[.slice u.A un u.c, .int .i64 u.ticks, .slice u.sA us u.sc, .slice u.wA uw u.wc], .int .i64 N, .int .i64 r] w' (SameV w' 0 E2)) := fun w' hb => by
            have h := purgeSame_bad w' m u N r E2 (HF.out.new hb) (HM.out.new hb) (HU.out.new hb) HNE.out HTWO.out
            rw [HNN.out, HNS.out, HNW.out, HUN.out, HUS.out, HUW.out] at h
            exact h
          unfold SameV at HSB
          obtain ⟨x0, x1, x2, x3, hlx⟩ := HX1.out _ (HXB.out.trans (HB7.out.mono HXB.out.size))
          obtain ⟨v0, v1, v2, v3, hlv⟩ := HX2.out _ (HXB.out.trans (HB7.out.mono HXB.out.size))
          go_wp2_with fail
          refine (HSB.out _ (HB2.out.trans (HB7.out.mono HB2.out.size))).mono ?_
          rintro e w8 ⟨rfl, hb8⟩
          have HB8 := hid (HB7.out.trans (hb8.mono HB7.out.size))
          clear hb8 x0 x1 x2 x3 hlx v0 v1 v2 v3 hlv
          go_wp2_with fail
          refine (error_same E2 w8 (HG.out.new (HB2.out.trans (HB8.out.mono HB2.out.size)))).mono ?_
          rintro e w9 ⟨rfl, hb9⟩
          have HB9 := hid (HB8.out.trans (hb9.mono HB8.out.size))
          clear hb9
          go_wp2_with fail
          go_ret
          exact ⟨rfl, HB2.out.trans (HB9.out.mono HB2.out.size)⟩
  · have HPG : Hid (∀ w', Below w.heap.size w w' → Calls Tryd.prog 42 #[.agg #[.slice m.A nn m.c, .int .i64 m.ticks, .slice m.sA ns m.sc, .slice m.wA nw m.wc], .int .i64 r] w' fun e w'' => e = .returned (.tuple #[.agg #[.slice none 0 0, .int .i64 0, .slice none 0 0, .slice none 0 0], errV E]) ∧ Below w'.heap.size w' w'') := fun w' hb => by
      have h := purge_bad w' m r (HF.out.new hb) (HM.out.new hb) (by rw [HE.out]; exact hE0)
      rw [HNN.out, HNS.out, HNW.out, HE.out] at h
      first | exact h | (rw [errV_pos hE0]; exact h)
    have HNE := hid hE0
    have HTWO : Hid (twoE m.pl u.pl N r E) := .inl ⟨by rw [HE.out]; exact hE0, HE.out.symm⟩
    have hd : (E == 0) = false := by simpa using hE0
    clear hE0
    obtain ⟨wz, hwz⟩ : ∃ wz, wz = w2.alloc (.cells #[.slice none 0 0, .int .i64 0, .slice none 0 0, .slice none 0 0] 31) := ⟨_, rfl⟩
    have hbz : Below w2.heap.size w2 wz := by rw [hwz]; exact (Below.refl _ _).alloc (Nat.le_refl _) _
    have hzz : wz.heap[w2.heap.size]? = some (.cells #[.slice none 0 0, .int .i64 0, .slice none 0 0, .slice none 0 0] 31 (0, 0)) := by rw [hwz]; exact heap_alloc_new w2 _
    obtain ⟨zb, hzb⟩ : ∃ zb, zb = w2.heap.size := ⟨_, rfl⟩
    rw [← hzb] at hzz
    have HTryd := hid hzz
    have HBZ := hid hbz
    clear hzz hbz
    go_upto_region 8 with fail
    rw [← hwz, ← hzb]
    clear hwz hzb x0 x1 x2 x3 hlx
    obtain ⟨x0, x1, x2, x3, hlx⟩ := HX1.out _ (HXB.out.trans (HBZ.out.mono HXB.out.size))
    go_wp2_with fail
    refine (HPG.out _ (HB2.out.trans (HBZ.out.mono HB2.out.size))).mono ?_
    rintro e w3 ⟨rfl, hb3⟩
    have HB3 := hid (HBZ.out.trans (hb3.mono HBZ.out.size))
    have hz3 := (hb3.block _ (blk_lt HTryd.out)).trans HTryd.out
    obtain ⟨wy, hwy⟩ : ∃ wy, wy = w3.alloc (.cells #[.slice none 0 0, .int .i64 0, .slice none 0 0, .slice none 0 0] 31) := ⟨_, rfl⟩
    obtain ⟨yb, hyb⟩ : ∃ yb, yb = w3.heap.size := ⟨_, rfl⟩
    have hby : Below w3.heap.size w3 wy := by rw [hwy]; exact (Below.refl _ _).alloc (Nat.le_refl _) _
    have hyy : wy.heap[yb]? = some (.cells #[.slice none 0 0, .int .i64 0, .slice none 0 0, .slice none 0 0] 31 (0, 0)) := by rw [hwy, hyb]; exact heap_alloc_new w3 _
    have HYY := hid hyy
    have HZ4 := hid ((hby.block _ (blk_lt hz3)).trans hz3)
    have HB4 := hid (HB3.out.trans (hby.mono HB3.out.size))
    clear hb3 hz3 hby hyy x0 x1 x2 x3 hlx
    go_upto_region 11 with fail
    rw [← hwy, ← hyb]
    clear hwy hyb
    go_wp2_with fail
    refine (error_same E wy (HG.out.new (HB2.out.trans (HB4.out.mono HB2.out.size)))).mono ?_
    rintro e w5 ⟨rfl, hb5⟩
    have HB5 := hid (HB4.out.trans (hb5.mono HB4.out.size))
    have hy5 := (hb5.block _ (blk_lt HYY.out)).trans HYY.out
    have hz5 := (hb5.block _ (blk_lt HZ4.out)).trans HZ4.out
    have y0 := blk_cell hy5 0
    have y1 := blk_cell hy5 1
    have y2 := blk_cell hy5 2
    have y3 := blk_cell hy5 3
    have hly := blk_lt hy5
    have z0 := blk_cell hz5 0
    have z1 := blk_cell hz5 1
    have z2 := blk_cell hz5 2
    have z3 := blk_cell hz5 3
    have hlz := blk_lt hz5
    simp at y0 y1 y2 y3 z0 z1 z2 z3
    clear hb5 hy5 hz5
    go_wp2_with fail
    refine (none_same w5).mono ?_
    rintro e w6 ⟨rfl, hb6⟩
    have HB6 := hid (HB5.out.trans (hb6.mono HB5.out.size))
    clear hb6 y0 y1 y2 y3 hly z0 z1 z2 z3 hlz
    have HSB : Hid (∀ w', Below w.heap.size w w' → Calls Tryd.prog 43 #[.agg #[.slice m.A nn m.c, .int .i64 m.ticks, .slice m.sA ns m.sc, .slice m.wA nw m.wc], .agg #[.slice u.A un u.c, .int .i64 u.ticks, .slice u.sA us u.sc, .slice u.wA uw u.wc], .int .i64 N, .int .i64 r] w' (SameV w' 0 E)) := fun w' hb => by
      have h := purgeSame_bad w' m u N r E (HF.out.new hb) (HM.out.new hb) (HU.out.new hb) HNE.out HTWO.out
      rw [HNN.out, HNS.out, HNW.out, HUN.out, HUS.out, HUW.out] at h
      exact h
    unfold SameV at HSB
    obtain ⟨x0, x1, x2, x3, hlx⟩ := HX1.out _ (HXB.out.trans (HB6.out.mono HXB.out.size))
    obtain ⟨v0, v1, v2, v3, hlv⟩ := HX2.out _ (HXB.out.trans (HB6.out.mono HXB.out.size))
    go_wp2_with fail
    refine (HSB.out _ (HB2.out.trans (HB6.out.mono HB2.out.size))).mono ?_
    rintro e w8 ⟨rfl, hb8⟩
    have HB8 := hid (HB6.out.trans (hb8.mono HB6.out.size))
    clear hb8 x0 x1 x2 x3 hlx v0 v1 v2 v3 hlv
    go_wp2_with fail
    refine (error_same E w8 (HG.out.new (HB2.out.trans (HB8.out.mono HB2.out.size)))).mono ?_
    rintro e w9 ⟨rfl, hb9⟩
    have HB9 := hid (HB8.out.trans (hb9.mono HB8.out.size))
    clear hb9
    go_wp2_with fail
    go_ret
    exact ⟨rfl, HB2.out.trans (HB9.out.mono HB2.out.size)⟩
end Go.Proofs.YtongkiccglaniaaDoor
