/- The walk of framelaw3.SwayTells: it returns true at every input. -/
import Derived.Test.YtnmbomhlonifnaaDoorSwayAll
import Derived.Test.YtnmbomhlonifnaaDoorRSince
import Derived.Test.YtnmbomhlonifnaaDoorSameFlags
import Derived.Test.YtnmbomhlonifnaaDoorRPlan
import Derived.Test.YtnmbomhlonifnaaDoorDoorU
import Derived.IntWalk
import Derived.StillTailTactics
import Derived.Deep.DeepCutAuto
import Derived.Deep.CutBlock
namespace Go.Proofs.YtnmbomhlonifnaaDoor
open Go.RowKit
set_option maxRecDepth 100000

theorem swayE_all {p : Pl} (he : planChk p = 0) (c v t : Int) : swayE p 0 c v 0 t = if 0 ≤ c ∧ c < 6 ∧ 0 ≤ v ∧ v < 1000 ∧ 0 ≤ t ∧ t ≤ 2000 then 0 else 1 := by
  have h1 := (planChk_ok he).some1
  unfold swayE pokeOk
  rw [if_neg (fun e => e he)]
  by_cases h : 0 ≤ c ∧ c < 6 ∧ 0 ≤ v ∧ v < 1000 ∧ 0 ≤ t ∧ t ≤ 2000
  · rw [if_pos h, if_pos ⟨decide_eq_true (by omega), by omega⟩]
  · rw [if_neg h, if_neg (fun h2 => h (by have := of_decide_eq_true h2.1; omega))]
theorem swayE_ok {p : Pl} (he : planChk p = 0) (a c v b t : Int) : swayE p a c v b t = if 0 ≤ a ∧ a < p.code.length ∧ 0 ≤ c ∧ c < 6 ∧ 0 ≤ v ∧ v < 1000 ∧ 0 ≤ b ∧ b < p.code.length ∧ 0 ≤ t ∧ t ≤ 2000 then 0 else 1 := by
  unfold swayE pokeOk
  rw [if_neg (fun e => e he)]
  by_cases h : 0 ≤ a ∧ a < p.code.length ∧ 0 ≤ c ∧ c < 6 ∧ 0 ≤ v ∧ v < 1000 ∧ 0 ≤ b ∧ b < p.code.length ∧ 0 ≤ t ∧ t ≤ 2000
  · rw [if_pos h, if_pos ⟨decide_eq_true (by omega), by omega⟩]
  · rw [if_neg h, if_neg (fun h2 => h (by have := of_decide_eq_true h2.1; omega))]
set_option maxHeartbeats 8000000 in
theorem swayTells_walk {w : World} (hg : Handle w) (hf : Forms w) (m : PM) (hm : PlanAt w m) (a c v b t : Int) :
    Calls Tryd.prog 8 #[.agg #[.slice m.A m.ros.length m.c, .int .i64 m.ticks, .slice m.sA m.spans.length m.sc, .slice m.wA m.wires.length m.wc], .int .i64 a, .int .i64 c, .int .i64 v, .int .i64 b, .int .i64 t] w fun e w' => e = .returned (.bool true) ∧ Below w.heap.size w w' := by
  have HG := hid hg
  obtain ⟨w1, hw1⟩ : ∃ w1, w1 = w.alloc (.cells #[.slice m.A m.ros.length m.c, .int .i64 m.ticks, .slice m.sA m.spans.length m.sc, .slice m.wA m.wires.length m.wc] 31) := ⟨_, rfl⟩
  have hb1 : Below w.heap.size w w1 := by rw [hw1]; exact (Below.refl _ _).alloc (Nat.le_refl _) _
  have hbox : w1.heap[w.heap.size]? = some (.cells #[.slice m.A m.ros.length m.c, .int .i64 m.ticks, .slice m.sA m.spans.length m.sc, .slice m.wA m.wires.length m.wc] 31 (0, 0)) := by rw [hw1]; exact heap_alloc_new w _
  have hsi : ∀ w' a b t, Below w.heap.size w w' → Calls Tryd.prog 27 #[.agg #[.slice m.A m.ros.length m.c, .int .i64 m.ticks, .slice m.sA m.spans.length m.sc, .slice m.wA m.wires.length m.wc], .int .i64 a, .int .i64 c, .int .i64 v, .int .i64 b, .int .i64 t] w' (SinceV w' (swayV m.pl a c v b t) (swayE m.pl a c v b t)) := fun w' a b t hb => swaySince_any w' m a c v b t (hf.new hb) (hm.new hb)
  have hal : ∀ w' t, Below w.heap.size w w' → Calls Tryd.prog 25 #[.agg #[.slice m.A m.ros.length m.c, .int .i64 m.ticks, .slice m.sA m.spans.length m.sc, .slice m.wA m.wires.length m.wc], .int .i64 c, .int .i64 v, .int .i64 t] w' (AllV w' m.pl c v t) := fun w' t hb => swayAll_any w' m c v t (hf.new hb) (hm.new hb)
  have hrs : planChk m.pl = 0 → ∀ (w' : World) (a c b t : Nat) (v : Int), Below w.heap.size w w' → a < m.ros.length → c < 6 → (0 ≤ v ∧ v < 1000) → b < m.ros.length → t ≤ 2000 → Calls Tryd.prog 29 #[.agg #[.slice m.A m.ros.length m.c, .int .i64 m.ticks, .slice m.sA m.spans.length m.sc, .slice m.wA m.wires.length m.wc], .int .i64 a, .int .i64 c, .int .i64 v, .int .i64 b, .int .i64 t] w' fun e w'' => e = .returned (.int .i64 (sinceOf m.pl a c v b t)) ∧ Below w'.heap.size w' w'' := fun he w' a c b t v hb h1 h2 h3 h4 h5 => rsince_any w' m (hm.new hb) he a c b t v h1 h2 h3 h4 h5
  have hrp := rplan_any w1 m (hm.new hb1)
  have hlen : m.pl.code.length = m.ros.length := by simp [PM.pl]
  obtain ⟨p, hp⟩ : ∃ p, p = m.pl := ⟨_, rfl⟩
  rw [← hp] at hsi hal hrs hrp hlen
  obtain ⟨nn, hnn⟩ : ∃ nn, m.ros.length = nn := ⟨_, rfl⟩
  obtain ⟨ns, hns⟩ : ∃ ns, m.spans.length = ns := ⟨_, rfl⟩
  obtain ⟨nw, hnw⟩ : ∃ nw, m.wires.length = nw := ⟨_, rfl⟩
  rw [hnn, hns, hnw] at hsi hal hrs hrp hw1 hbox ⊢
  rw [hnn] at hlen
  have HSI := hid hsi
  have HAL := hid hal
  have HRS := hid hrs
  have HRP := hid hrp
  have HLEN := hid hlen
  have HB1 := hid hb1
  have HXC : Hid (∀ w', Below w1.heap.size w1 w' → w'.cell? ⟨w.heap.size, 0, none⟩ = some (.slice m.A nn m.c) ∧ w'.cell? ⟨w.heap.size, 1, none⟩ = some (.int .i64 m.ticks) ∧ w'.cell? ⟨w.heap.size, 2, none⟩ = some (.slice m.sA ns m.sc) ∧ w'.cell? ⟨w.heap.size, 3, none⟩ = some (.slice m.wA nw m.wc) ∧ w.heap.size < w'.heap.size) := fun w' hb => by
    have h := (hb.block _ (blk_lt hbox)).trans hbox
    exact ⟨blk_cell h 0, blk_cell h 1, blk_cell h 2, blk_cell h 3, blk_lt h⟩
  have HER : Hid (∀ (w' : World) (e : Int), Below w.heap.size w w' → Calls Tryd.prog 20 #[errV e, .int .i64 e] w' fun e w'' => e = .returned (.bool true) ∧ Below w'.heap.size w' w'') := fun w' e hb => error_same e w' (hg.new hb)
  clear hm hf hg hsi hal hrs hrp hlen hnn hns hnw hp hb1 hbox
  go_enter Tryd.func8, Tryd.ntmps8
  go_upto_region 1 with fail
  rw [← hw1]
  clear hw1
  go_cut [31] from 26 to 31 (fun v31 wx => (∃ q : Bool, v31 = .bool q ∧ (q = true → 0 ≤ t)) ∧ wx = w1)
  case first =>
    as_aux_lemma =>
    by_cases h1 : 100 < t
    · by_cases h2 : t ≤ 2000
      · go_wp2_with fail
        go_meet
        exact ⟨⟨true, rfl, fun _ => by omega⟩, rfl⟩
      · have h3 : 2000 < t := by omega
        clear h2
        go_wp2_with fail
        go_meet
        exact ⟨⟨_, rfl, fun _ => by omega⟩, rfl⟩
    · have h3 : t ≤ 100 := by omega
      clear h1
      go_wp2_with fail
      go_meet
      exact ⟨⟨false, rfl, fun h => by cases h⟩, rfl⟩
  case rest =>
    as_aux_lemma =>
    obtain ⟨⟨q, rfl, hq⟩, rfl⟩ := hcut
    go_upto_if 31 with fail
    go_cut [5] (fun v5 wx => (∃ t2 : Int, v5 = .int .i64 t2) ∧ wx = wc)
    case first =>
      as_aux_lemma =>
      cases q with
      | true =>
        have h0 := hq rfl
        go_wp2_with fail
        go_meet
        exact ⟨⟨_, rfl⟩, rfl⟩
      | false =>
        go_wp2_with fail
        go_meet
        exact ⟨⟨_, rfl⟩, rfl⟩
    obtain ⟨⟨t2, rfl⟩, rfl⟩ := hcut
    clear hq
    obtain ⟨x0, x1, x2, x3, hlx⟩ := HXC.out _ (Below.refl _ _)
    go_wp2_with fail
    refine HRP.out.mono ?_
    rintro e w2 ⟨rfl, hb2⟩
    have HB2 := hid hb2
    clear hb2 HRP x0 x1 x2 x3 hlx
    obtain ⟨x0, x1, x2, x3, hlx⟩ := HXC.out _ HB2.out
    obtain ⟨E, hE⟩ : ∃ E, E = planChk p := ⟨_, rfl⟩
    rw [← hE]
    have HE := hid hE
    clear hE
    go_upto_region 5 with fail
    go_cut [84] from 37 to 84 (fun v84 wx => (∃ q : Bool, v84 = .bool q ∧ (q = true → swayE p a c v b t2 = 1) ∧ (q = false → swayE p a c v b t2 = E)) ∧ wx = w2)
    case first =>
      as_aux_lemma =>
      by_cases he : E = 0
      · subst he
        have hsE := swayE_ok (p := p) HE.out.symm a c v b t2
        rw [HLEN.out] at hsE
        by_cases hin : 0 ≤ a ∧ a < nn ∧ 0 ≤ c ∧ c < 6 ∧ 0 ≤ v ∧ v < 1000 ∧ 0 ≤ b ∧ b < nn ∧ 0 ≤ t2 ∧ t2 ≤ 2000
        · rw [if_pos hin] at hsE
          have HS := hid hsE
          obtain ⟨i1, i2, i3, i4, i5, i6, i7, i8, i9, i10⟩ := hin
          have d0 : decide (a < 0) = false := decide_eq_false (by omega)
          have d1 : decide ((nn : Int) ≤ a) = false := decide_eq_false (by omega)
          have d2 : decide (c < 0) = false := decide_eq_false (by omega)
          have d3 : decide (5 < c) = false := decide_eq_false (by omega)
          have d4 : decide (v < 0) = false := decide_eq_false (by omega)
          have d5 : decide (999 < v) = false := decide_eq_false (by omega)
          have d6 : decide (b < 0) = false := decide_eq_false (by omega)
          have d7 : decide ((nn : Int) ≤ b) = false := decide_eq_false (by omega)
          have d8 : decide (t2 < 0) = false := decide_eq_false (by omega)
          have d9 : decide (2000 < t2) = false := decide_eq_false (by omega)
          clear hsE i1 i2 i3 i4 i5 i6 i7 i8 i9 i10
          go_wp2_with fail
          go_meet
          exact ⟨⟨false, rfl, fun h => (by cases h), fun _ => HS.out⟩, rfl⟩
        · rw [if_neg hin] at hsE
          have HS := hid hsE
          clear hsE
          by_cases k0 : a < 0
          · have d0 : decide (a < 0) = true := decide_eq_true k0
            clear hin k0
            go_wp2_with fail
            go_meet
            exact ⟨⟨true, rfl, fun _ => HS.out, fun h => (by cases h)⟩, rfl⟩
          by_cases k1 : (nn : Int) ≤ a
          · have d0 : decide (a < 0) = false := decide_eq_false k0
            have d1 : decide ((nn : Int) ≤ a) = true := decide_eq_true k1
            clear hin k0 k1
            go_wp2_with fail
            go_meet
            exact ⟨⟨true, rfl, fun _ => HS.out, fun h => (by cases h)⟩, rfl⟩
          by_cases k2 : c < 0
          · have d0 : decide (a < 0) = false := decide_eq_false k0
            have d1 : decide ((nn : Int) ≤ a) = false := decide_eq_false k1
            have d2 : decide (c < 0) = true := decide_eq_true k2
            clear hin k0 k1 k2
            go_wp2_with fail
            go_meet
            exact ⟨⟨true, rfl, fun _ => HS.out, fun h => (by cases h)⟩, rfl⟩
          by_cases k3 : 5 < c
          · have d0 : decide (a < 0) = false := decide_eq_false k0
            have d1 : decide ((nn : Int) ≤ a) = false := decide_eq_false k1
            have d2 : decide (c < 0) = false := decide_eq_false k2
            have d3 : decide (5 < c) = true := decide_eq_true k3
            clear hin k0 k1 k2 k3
            go_wp2_with fail
            go_meet
            exact ⟨⟨true, rfl, fun _ => HS.out, fun h => (by cases h)⟩, rfl⟩
          by_cases k4 : v < 0
          · have d0 : decide (a < 0) = false := decide_eq_false k0
            have d1 : decide ((nn : Int) ≤ a) = false := decide_eq_false k1
            have d2 : decide (c < 0) = false := decide_eq_false k2
            have d3 : decide (5 < c) = false := decide_eq_false k3
            have d4 : decide (v < 0) = true := decide_eq_true k4
            clear hin k0 k1 k2 k3 k4
            go_wp2_with fail
            go_meet
            exact ⟨⟨true, rfl, fun _ => HS.out, fun h => (by cases h)⟩, rfl⟩
          by_cases k5 : 999 < v
          · have d0 : decide (a < 0) = false := decide_eq_false k0
            have d1 : decide ((nn : Int) ≤ a) = false := decide_eq_false k1
            have d2 : decide (c < 0) = false := decide_eq_false k2
            have d3 : decide (5 < c) = false := decide_eq_false k3
            have d4 : decide (v < 0) = false := decide_eq_false k4
            have d5 : decide (999 < v) = true := decide_eq_true k5
            clear hin k0 k1 k2 k3 k4 k5
            go_wp2_with fail
            go_meet
            exact ⟨⟨true, rfl, fun _ => HS.out, fun h => (by cases h)⟩, rfl⟩
          by_cases k6 : b < 0
          · have d0 : decide (a < 0) = false := decide_eq_false k0
            have d1 : decide ((nn : Int) ≤ a) = false := decide_eq_false k1
            have d2 : decide (c < 0) = false := decide_eq_false k2
            have d3 : decide (5 < c) = false := decide_eq_false k3
            have d4 : decide (v < 0) = false := decide_eq_false k4
            have d5 : decide (999 < v) = false := decide_eq_false k5
            have d6 : decide (b < 0) = true := decide_eq_true k6
            clear hin k0 k1 k2 k3 k4 k5 k6
            go_wp2_with fail
            go_meet
            exact ⟨⟨true, rfl, fun _ => HS.out, fun h => (by cases h)⟩, rfl⟩
          by_cases k7 : (nn : Int) ≤ b
          · have d0 : decide (a < 0) = false := decide_eq_false k0
            have d1 : decide ((nn : Int) ≤ a) = false := decide_eq_false k1
            have d2 : decide (c < 0) = false := decide_eq_false k2
            have d3 : decide (5 < c) = false := decide_eq_false k3
            have d4 : decide (v < 0) = false := decide_eq_false k4
            have d5 : decide (999 < v) = false := decide_eq_false k5
            have d6 : decide (b < 0) = false := decide_eq_false k6
            have d7 : decide ((nn : Int) ≤ b) = true := decide_eq_true k7
            clear hin k0 k1 k2 k3 k4 k5 k6 k7
            go_wp2_with fail
            go_meet
            exact ⟨⟨true, rfl, fun _ => HS.out, fun h => (by cases h)⟩, rfl⟩
          by_cases k8 : t2 < 0
          · have d0 : decide (a < 0) = false := decide_eq_false k0
            have d1 : decide ((nn : Int) ≤ a) = false := decide_eq_false k1
            have d2 : decide (c < 0) = false := decide_eq_false k2
            have d3 : decide (5 < c) = false := decide_eq_false k3
            have d4 : decide (v < 0) = false := decide_eq_false k4
            have d5 : decide (999 < v) = false := decide_eq_false k5
            have d6 : decide (b < 0) = false := decide_eq_false k6
            have d7 : decide ((nn : Int) ≤ b) = false := decide_eq_false k7
            have d8 : decide (t2 < 0) = true := decide_eq_true k8
            clear hin k0 k1 k2 k3 k4 k5 k6 k7 k8
            go_wp2_with fail
            go_meet
            exact ⟨⟨true, rfl, fun _ => HS.out, fun h => (by cases h)⟩, rfl⟩
          by_cases k9 : 2000 < t2
          · have d0 : decide (a < 0) = false := decide_eq_false k0
            have d1 : decide ((nn : Int) ≤ a) = false := decide_eq_false k1
            have d2 : decide (c < 0) = false := decide_eq_false k2
            have d3 : decide (5 < c) = false := decide_eq_false k3
            have d4 : decide (v < 0) = false := decide_eq_false k4
            have d5 : decide (999 < v) = false := decide_eq_false k5
            have d6 : decide (b < 0) = false := decide_eq_false k6
            have d7 : decide ((nn : Int) ≤ b) = false := decide_eq_false k7
            have d8 : decide (t2 < 0) = false := decide_eq_false k8
            have d9 : decide (2000 < t2) = true := decide_eq_true k9
            clear hin k0 k1 k2 k3 k4 k5 k6 k7 k8 k9
            go_wp2_with fail
            go_meet
            exact ⟨⟨true, rfl, fun _ => HS.out, fun h => (by cases h)⟩, rfl⟩
          exact absurd ⟨by omega, by omega, by omega, by omega, by omega, by omega, by omega, by omega, by omega, by omega⟩ hin
      · have HS : Hid (swayE p a c v b t2 = E) := by
          show _ = _
          unfold swayE
          rw [if_pos (by rw [← HE.out]; exact he)]; exact HE.out.symm
        have e0 : (E == 0) = false := by simpa using he
        clear he
        go_wp2_with fail
        go_meet
        exact ⟨⟨false, rfl, fun h => (by cases h), fun _ => HS.out⟩, rfl⟩
    case rest =>
      as_aux_lemma =>
      obtain ⟨⟨q, rfl, hq1, hq2⟩, rfl⟩ := hcut
      obtain ⟨F, hF⟩ : ∃ F, F = swayE p a c v b t2 := ⟨_, rfl⟩
      rw [← hF] at hq1 hq2
      have HFF := hid hF
      clear hF
      go_upto_if 84 with fail
      go_cut [14] (fun v14 wx => v14 = .int .i64 F ∧ wx = wc)
      case first =>
        as_aux_lemma =>
        cases q with
        | true =>
          obtain rfl := hq1 rfl
          go_wp2_with fail
          go_meet
          exact ⟨rfl, rfl⟩
        | false =>
          obtain rfl := hq2 rfl
          go_wp2_with fail
          go_meet
          exact ⟨rfl, rfl⟩
      obtain ⟨rfl, rfl⟩ := hcut
      clear hq1 hq2
      go_upto_if 86 with fail
      go_cut [15] (fun v15 wx => v15 = .int .i64 (swayV p a c v b t2) ∧ Below wc.heap.size wc wx)
      case first =>
        as_aux_lemma =>
        by_cases hf0 : F = 0
        · have hEE := HFF.out.symm.trans hf0
          obtain ⟨h1, h2, h3, h4, h5, h6⟩ := swayE_zero hEE
          have hpk : 0 ≤ a ∧ a < p.code.length ∧ 0 ≤ c ∧ c < 6 ∧ 0 ≤ v ∧ v < 1000 := by simpa [pokeOk] using h2
          rw [HLEN.out] at hpk h4
          obtain ⟨p1, p2, p3, p4, p5, p6⟩ := hpk
          obtain ⟨a', rfl⟩ : ∃ a' : Nat, a = a' := ⟨a.toNat, by omega⟩
          obtain ⟨c', rfl⟩ : ∃ c' : Nat, c = c' := ⟨c.toNat, by omega⟩
          obtain ⟨b', rfl⟩ : ∃ b' : Nat, b = b' := ⟨b.toNat, by omega⟩
          obtain ⟨t', rfl⟩ : ∃ t' : Nat, t2 = t' := ⟨t2.toNat, by omega⟩
          have hcall := HRS.out h1 wc a' c' b' t' v (HB1.out.trans (HB2.out.mono HB1.out.size)) (by omega) (by omega) ⟨p5, p6⟩ (by omega) (by omega)
          have HV := hid (swayV_nat hEE)
          have HCALL := hid hcall
          obtain rfl := hf0
          clear hEE h1 h2 h3 h4 h5 h6 p1 p2 p3 p4 p5 p6 hcall
          go_wp2_with fail
          refine HCALL.out.mono ?_
          rintro e w3 ⟨rfl, hb3⟩
          have HB3 := hid hb3
          clear hb3 x0 x1 x2 x3 hlx
          go_wp2_with fail
          go_meet
          exact ⟨by rw [HV.out], HB3.out⟩
        · have HV : Hid (swayV p a c v b t2 = 0) := by
            show _ = _
            unfold swayV
            rw [← HFF.out, if_neg hf0]
          have f0 : (F == 0) = false := by simpa using hf0
          clear hf0
          go_wp2_with fail
          go_meet
          exact ⟨by rw [HV.out], Below.refl _ _⟩
      obtain ⟨rfl, hb3⟩ := hcut
      have HB3 := hid (HB2.out.trans (hb3.mono HB2.out.size))
      clear hb3 x0 x1 x2 x3 hlx
      obtain ⟨x0, x1, x2, x3, hlx⟩ := HXC.out _ HB3.out
      have hs := HSI.out wc a b t2 (HB1.out.trans (HB3.out.mono HB1.out.size))
      unfold SinceV at hs
      rw [← HFF.out] at hs
      go_wp2_with fail
      refine hs.mono ?_
      clear hs
      rintro e w4 ⟨rfl, hb4⟩
      have HB4 := hid (HB3.out.trans (hb4.mono HB3.out.size))
      clear hb4 x0 x1 x2 x3 hlx
      go_wp2_with fail
      refine (HER.out w4 F (HB1.out.trans (HB4.out.mono HB1.out.size))).mono ?_
      rintro e w5 ⟨rfl, hb5⟩
      have HB5 := hid (HB4.out.trans (hb5.mono HB4.out.size))
      clear hb5
      obtain ⟨x0, x1, x2, x3, hlx⟩ := HXC.out _ HB5.out
      go_upto_region 12 with fail
      go_cut [137] from 112 to 137 (fun v137 wx => (∃ q : Bool, v137 = .bool q ∧ (q = true → swayE p 0 c v 0 t2 = 1) ∧ (q = false → swayE p 0 c v 0 t2 = E)) ∧ wx = w5)
      case first =>
        as_aux_lemma =>
        by_cases he : E = 0
        · subst he
          have hsE := swayE_all (p := p) HE.out.symm c v t2
          by_cases k0 : c < 0
          · have d0 : decide (c < 0) = true := decide_eq_true k0
            have hS := hsE.trans (if_neg (by omega))
            have HS := hid hS
            clear hS hsE k0
            go_wp2_with fail
            go_meet
            exact ⟨⟨true, rfl, fun _ => HS.out, fun h => (by cases h)⟩, rfl⟩
          by_cases k1 : 5 < c
          · have d0 : decide (c < 0) = false := decide_eq_false k0
            have d1 : decide (5 < c) = true := decide_eq_true k1
            have hS := hsE.trans (if_neg (by omega))
            have HS := hid hS
            clear hS hsE k0 k1
            go_wp2_with fail
            go_meet
            exact ⟨⟨true, rfl, fun _ => HS.out, fun h => (by cases h)⟩, rfl⟩
          by_cases k2 : v < 0
          · have d0 : decide (c < 0) = false := decide_eq_false k0
            have d1 : decide (5 < c) = false := decide_eq_false k1
            have d2 : decide (v < 0) = true := decide_eq_true k2
            have hS := hsE.trans (if_neg (by omega))
            have HS := hid hS
            clear hS hsE k0 k1 k2
            go_wp2_with fail
            go_meet
            exact ⟨⟨true, rfl, fun _ => HS.out, fun h => (by cases h)⟩, rfl⟩
          by_cases k3 : 999 < v
          · have d0 : decide (c < 0) = false := decide_eq_false k0
            have d1 : decide (5 < c) = false := decide_eq_false k1
            have d2 : decide (v < 0) = false := decide_eq_false k2
            have d3 : decide (999 < v) = true := decide_eq_true k3
            have hS := hsE.trans (if_neg (by omega))
            have HS := hid hS
            clear hS hsE k0 k1 k2 k3
            go_wp2_with fail
            go_meet
            exact ⟨⟨true, rfl, fun _ => HS.out, fun h => (by cases h)⟩, rfl⟩
          by_cases k4 : t2 < 0
          · have d0 : decide (c < 0) = false := decide_eq_false k0
            have d1 : decide (5 < c) = false := decide_eq_false k1
            have d2 : decide (v < 0) = false := decide_eq_false k2
            have d3 : decide (999 < v) = false := decide_eq_false k3
            have d4 : decide (t2 < 0) = true := decide_eq_true k4
            have hS := hsE.trans (if_neg (by omega))
            have HS := hid hS
            clear hS hsE k0 k1 k2 k3 k4
            go_wp2_with fail
            go_meet
            exact ⟨⟨true, rfl, fun _ => HS.out, fun h => (by cases h)⟩, rfl⟩
          by_cases k5 : 2000 < t2
          · have d0 : decide (c < 0) = false := decide_eq_false k0
            have d1 : decide (5 < c) = false := decide_eq_false k1
            have d2 : decide (v < 0) = false := decide_eq_false k2
            have d3 : decide (999 < v) = false := decide_eq_false k3
            have d4 : decide (t2 < 0) = false := decide_eq_false k4
            have d5 : decide (2000 < t2) = true := decide_eq_true k5
            have hS := hsE.trans (if_neg (by omega))
            have HS := hid hS
            clear hS hsE k0 k1 k2 k3 k4 k5
            go_wp2_with fail
            go_meet
            exact ⟨⟨true, rfl, fun _ => HS.out, fun h => (by cases h)⟩, rfl⟩
          have d0 : decide (c < 0) = false := decide_eq_false k0
          have d1 : decide (5 < c) = false := decide_eq_false k1
          have d2 : decide (v < 0) = false := decide_eq_false k2
          have d3 : decide (999 < v) = false := decide_eq_false k3
          have d4 : decide (t2 < 0) = false := decide_eq_false k4
          have d5 : decide (2000 < t2) = false := decide_eq_false k5
          have hS := hsE.trans (if_pos (by omega))
          have HS := hid hS
          clear hS hsE k0 k1 k2 k3 k4 k5
          go_wp2_with fail
          go_meet
          exact ⟨⟨false, rfl, fun h => (by cases h), fun _ => HS.out⟩, rfl⟩
        · have HS : Hid (swayE p 0 c v 0 t2 = E) := by
            show _ = _
            unfold swayE
            rw [if_pos (by rw [← HE.out]; exact he)]; exact HE.out.symm
          have e0 : (E == 0) = false := by simpa using he
          clear he
          go_wp2_with fail
          go_meet
          exact ⟨⟨false, rfl, fun h => (by cases h), fun _ => HS.out⟩, rfl⟩
      case rest =>
        as_aux_lemma =>
        obtain ⟨⟨q, rfl, hq1, hq2⟩, rfl⟩ := hcut
        obtain ⟨G, hG⟩ : ∃ G, G = swayE p 0 c v 0 t2 := ⟨_, rfl⟩
        rw [← hG] at hq1 hq2
        have HGG := hid hG
        clear hG
        go_upto_if 137 with fail
        go_cut [13] (fun v13 wx => v13 = .int .i64 G ∧ wx = wc)
        case first =>
          as_aux_lemma =>
          cases q with
          | true =>
            obtain rfl := hq1 rfl
            go_wp2_with fail
            go_meet
            exact ⟨rfl, rfl⟩
          | false =>
            obtain rfl := hq2 rfl
            go_wp2_with fail
            go_meet
            exact ⟨rfl, rfl⟩
        obtain ⟨rfl, rfl⟩ := hcut
        clear hq1 hq2
        have HBB := hid HB5.out
        clear x0 x1 x2 x3 hlx
        obtain ⟨x0, x1, x2, x3, hlx⟩ := HXC.out _ HBB.out
        by_cases hG0 : G = 0
        · have hEE := HGG.out.symm.trans hG0
          obtain ⟨h1, h2, h3, h4, h5, h6⟩ := swayE_zero hEE
          have hpk : 0 ≤ (0 : Int) ∧ (0 : Int) < p.code.length ∧ 0 ≤ c ∧ c < 6 ∧ 0 ≤ v ∧ v < 1000 := by simpa [pokeOk] using h2
          obtain ⟨_, _, p3, p4, p5, p6⟩ := hpk
          obtain ⟨C, rfl⟩ : ∃ C : Nat, c = C := ⟨c.toNat, by omega⟩
          obtain ⟨T, rfl⟩ : ∃ T : Nat, t2 = T := ⟨t2.toNat, by omega⟩
          have hn5 : nn ≤ 5 := by have := (planChk_ok h1).most5; rw [HLEN.out] at this; exact this
          have HRC : Hid (∀ (w' : World) (a b : Nat), Below w.heap.size w w' → a < nn → b < nn → Calls Tryd.prog 29 #[.agg #[.slice m.A nn m.c, .int .i64 m.ticks, .slice m.sA ns m.sc, .slice m.wA nw m.wc], .int .i64 a, .int .i64 C, .int .i64 v, .int .i64 b, .int .i64 T] w' fun e w'' => e = .returned (.int .i64 (sinceOf p a C v b T)) ∧ Below w'.heap.size w' w'') := fun w' a b hb ha hb' => HRS.out h1 w' a C b T v hb ha (by omega) ⟨p5, p6⟩ hb' (by omega)
          have HE0 := hid hEE
          obtain rfl := hG0
          clear hEE h1 h2 h3 h4 h5 h6 p3 p4 p5 p6
          obtain ⟨ib, hib, hzb0, hzb1, hzb2⟩ := info_parts Tryd.infoBool
          obtain ⟨is, his, hzs0, hzs1, hzs2⟩ := info_parts Tryd.infoBools
          go_wp2_with fail
          go_loopw [20, 19] (fun v20 v19 wr => ∃ (i : Nat) (A : Option Addr) (k : Nat) (hs : List Bm), i ≤ nn ∧ v20 = .int .i64 i ∧ v19 = .slice A i k ∧ FlagsAt wc wr A i k hs ∧ hs.map Bm.l = allRows p C v T i) (fun v20 _ _ => nn - (intOf v20).toNat)
          case atStart => exact ⟨0, none, 0, [], by omega, rfl, rfl, FlagsAt.nil (Below.refl _ _), rfl⟩
          case round =>
            obtain ⟨wo, rfl⟩ : ∃ wo : World, wo = wr := ⟨_, rfl⟩
            obtain ⟨i, A, k, hs, hil, rfl, rfl, hfl, hmap⟩ := hrel
            have HFL := hid hfl
            have HMAP := hid hmap
            have HBO := hid (HBB.out.trans (hfl.grow.below.mono HBB.out.size))
            clear hfl hmap x0 x1 x2 x3 hlx
            obtain ⟨x0, x1, x2, x3, hlx⟩ := HXC.out _ HBO.out
            by_cases hin : i < nn
            · have hini : (i : Int) < (nn : Int) := by omega
              go_wp2_with fail
              go_loopw [22, 21] (fun v22 v21 wr => ∃ (b' : Nat) (A' : Option Addr) (k' : Nat), b' ≤ nn ∧ v22 = .int .i64 b' ∧ v21 = .slice A' b' k' ∧ AllRow wo wr p C v T i b' A' k') (fun v22 _ _ => nn - (intOf v22).toNat)
              case atStart => exact ⟨0, none, 0, by omega, rfl, rfl, ⟨Grow.nil (Below.refl _ _)⟩⟩
              case round =>
                obtain ⟨wi, rfl⟩ : ∃ wi : World, wi = wr := ⟨_, rfl⟩
                obtain ⟨j, A', k', hjl, rfl, rfl, hrw⟩ := hrel
                have HRW := hid hrw
                have HBI := hid (HBO.out.trans (hrw.grow.below.mono HBO.out.size))
                clear hrw x0 x1 x2 x3 hlx
                obtain ⟨x0, x1, x2, x3, hlx⟩ := HXC.out _ HBI.out
                by_cases hjn : j < nn
                · have hjni : (j : Int) < (nn : Int) := by omega
                  go_wp2_with fail
                  refine (HRC.out wi i j (HB1.out.trans (HBI.out.mono HB1.out.size)) hin hjn).mono ?_
                  rintro e w6 ⟨rfl, hb6⟩
                  have HB6 := hid hb6
                  clear hb6 x0 x1 x2 x3 hlx
                  go_wp2_with (at_builtin; refine wpList_append_row _ rfl _ _ 72 rfl 4 ib _ 1 1 Tryd.underlying72 hib hzb0 hzb1 hzb2 rfl (by decide) A' j k' (flagVs (allRow p C v T i j)) rfl ?c0 (some ⟨w6.heap.size, 0, none⟩) 1 1 (flagVs [decide (0 ≤ sinceOf p i C v j T)]) rfl ?c1 ?c2 ?c3 ?c4 ?_)
                  case c0 => exact HRW.out.grow.row.new (HB6.out.alloc HB6.out.size _)
                  case c1 => exact sl_blk (heap_alloc_new w6 _) 1 1 _ rfl rfl
                  case c2 => exact fun u hu => by simp [flagVs] at hu; subst hu; rfl
                  case c3 => unfold maxLen; omega
                  case c4 => omega
                  intro A2 k2 w7 hr7 hk7 hn7
                  have HG7 := hid (HRW.out.grow.more (HB6.out.alloc HB6.out.size _) hr7 hk7 fun j hj => (hn7 j hj).imp_right fun h => by simp at h ⊢; omega)
                  clear hr7 hk7 hn7
                  go_wp2_with fail
                  go_roundw
                  case rel =>
                    refine ⟨j + 1, A2, k2, by omega, by go_num, rfl, ⟨?_⟩⟩
                    rw [allRow_succ]
                    have := HG7.out
                    simpa [flagVs] using this
                  case measure => simp [intOf]; omega
                · obtain rfl : j = nn := by omega
                  go_wp2_with (at_builtin; refine wpList_append_row _ rfl _ _ 68 rfl 72 is _ 1 24 Tryd.underlying68 his hzs0 hzs1 hzs2 rfl (by decide) A i k (hs.flatMap Bm.cells) rfl ?c0 (some ⟨wi.heap.size, 0, none⟩) 1 1 [.slice A' j k'] rfl ?c1 ?c2 ?c3 ?c4 ?_)
                  case c0 => exact HFL.out.grow.row.new (HRW.out.grow.below.alloc HRW.out.grow.below.size _)
                  case c1 => exact sl_blk (heap_alloc_new wi _) 1 1 _ rfl rfl
                  case c2 => exact fun u hu => by simp at hu; subst hu; rfl
                  case c3 => unfold maxLen; omega
                  case c4 => omega
                  intro A2 k2 w6 hr6 hk6 hn6
                  have hlr : (allRow p C v T i j).length = j := allRow_len _ _ _ _ _ _
                  have hmore := HFL.out.more (h1 := ⟨A', k', allRow p C v T i j⟩) HRW.out.grow.below (by simp only [hlr]; exact HRW.out.grow.row) (by simp only [hlr]; exact hn5) HRW.out.grow.fresh ((Below.refl _ _).alloc (Nat.le_refl _) _) (by simp only [Bm.cells, hlr]; exact hr6) hk6 fun j hj => by have := hn6 j hj; simpa using this
                  have HMO := hid hmore
                  clear hmore hr6 hk6 hn6 x0 x1 x2 x3 hlx
                  go_wp2_with fail
                  go_roundw
                  case rel => exact ⟨i + 1, A2, k2, hs ++ [⟨A', k', allRow p C v T i j⟩], by omega, by go_num, rfl, HMO.out, by rw [List.map_append, HMAP.out, allRows_succ, HLEN.out]; rfl⟩
                  case measure => simp [intOf]; omega
            · obtain rfl : i = nn := by omega
              have hlen : hs.length = i := by have := congrArg List.length HMAP.out; simpa [allRows] using this
              go_wp2_with fail
              refine (HAL.out wo T (HB1.out.trans (HBO.out.mono HB1.out.size))).mono ?_
              rintro e w6 (⟨hne, _⟩ | ⟨_, B, n2, k2, gs, rfl, hn2, hfl2, hmap2⟩)
              · exact absurd HE0.out hne
              rw [HLEN.out] at hn2
              subst hn2
              have hb6 := hfl2.grow.below
              have HB6 := hid (HBO.out.trans (hb6.mono HBO.out.size))
              have h1' := HFL.out.new hb6
              have her := HER.out w6 0 (HB1.out.trans (HB6.out.mono HB1.out.size))
              rw [errV_zero] at her
              clear x0 x1 x2 x3 hlx
              go_wp2_with fail
              refine her.mono ?_
              clear her
              rintro e w7 ⟨rfl, hb7⟩
              have HB7 := hid (HB6.out.trans (hb7.mono HB6.out.size))
              have hmm : gs.map Bm.l = hs.map Bm.l := by rw [hmap2, HMAP.out, HLEN.out, Int.toNat_natCast]
              have hgl : gs.length = n2 := by have := congrArg List.length hmm; simp at this; omega
              have hfs := flags_same (hfl2.new hb7) (h1'.new hb7) hgl hmm
              clear hb6 hb7 hmap2 hfl2 h1' hmm
              go_wp2_with fail
              refine hfs.mono ?_
              clear hfs
              rintro e w8 ⟨rfl, hb8⟩
              have HB8 := hid (HB7.out.trans (hb8.mono HB7.out.size))
              clear hb8
              go_wp2_with fail
              go_ret
              exact ⟨rfl, HB1.out.trans (HB8.out.mono HB1.out.size)⟩
        · have g0 : (G == 0) = false := by simpa using hG0
          have HG0 := hid hG0
          clear hG0
          go_wp2_with fail
          go_loopw [20, 19] (fun v20 v19 wr => v20 = .int .i64 0 ∧ v19 = .slice none 0 0 ∧ wr = wc) (fun _ _ _ => 0)
          case atStart => exact ⟨rfl, rfl, rfl⟩
          case round =>
            obtain ⟨rfl, rfl, rfl⟩ := hrel
            by_cases hn0 : 0 < nn
            all_goals
              go_wp2_with fail
              refine (HAL.out _ t2 (HB1.out.trans (HBB.out.mono HB1.out.size))).mono ?_
              rintro e w6 (⟨_, rfl, hb6⟩ | ⟨he, _⟩)
              rotate_left
              · exact absurd (HGG.out.trans he) HG0.out
              rw [← HGG.out]
              have HB6 := hid (HBB.out.trans (hb6.mono HBB.out.size))
              clear hb6 x0 x1 x2 x3 hlx
              go_wp2_with fail
              refine (HER.out w6 G (HB1.out.trans (HB6.out.mono HB1.out.size))).mono ?_
              rintro e w7 ⟨rfl, hb7⟩
              have HB7 := hid (HB6.out.trans (hb7.mono HB6.out.size))
              have hfs := flags_same (FlagsAt.nil (Below.refl w7.heap.size w7)) (FlagsAt.nil (Below.refl w7.heap.size w7)) rfl rfl
              clear hb7
              go_wp2_with fail
              refine hfs.mono ?_
              clear hfs
              rintro e w8 ⟨rfl, hb8⟩
              have HB8 := hid (HB7.out.trans (hb8.mono HB7.out.size))
              clear hb8
              go_wp2_with fail
              go_ret
              exact ⟨rfl, HB1.out.trans (HB8.out.mono HB1.out.size)⟩
end Go.Proofs.YtnmbomhlonifnaaDoor
