/- Package purge: the contract of Same, where it is refused. -/
import Derived.Test.YtongkiccglaniaaDoorPurgeSameW
import Derived.Test.YtongkiccglaniaaDoorSightLongWalk
namespace Go.Proofs.YtongkiccglaniaaDoor
open Go.RowKit
set_option maxRecDepth 100000
attribute [local go_sem ↓] Go.wp_at_zero Go.wp_at_succ

/-- What is told of two plans, a number of ticks, and a room. -/
def twoE (p q : Pl) (n r E : Int) : Prop :=
  (planChk p ≠ 0 ∧ E = planChk p) ∨ (planChk p = 0 ∧ planChk q ≠ 0 ∧ E = planChk q) ∨ (planChk p = 0 ∧ planChk q = 0 ∧ E = 1 ∧ (r < 0 ∨ p.code.length ≤ r ∨ q.code.length ≤ r ∨ n < 0 ∨ 2000 < n))
set_option maxHeartbeats 4000000 in
theorem purgeSame_bad (w : World) (m u : PM) (n r E : Int) (hf : Forms w) (hm : PlanAt w m) (hu : PlanAt w u) (hE : E ≠ 0) (h : twoE m.pl u.pl n r E) :
    Calls Tryd.prog 43 #[.agg #[.slice m.A m.ros.length m.c, .int .i64 m.ticks, .slice m.sA m.spans.length m.sc, .slice m.wA m.wires.length m.wc], .agg #[.slice u.A u.ros.length u.c, .int .i64 u.ticks, .slice u.sA u.spans.length u.sc, .slice u.wA u.wires.length u.wc], .int .i64 n, .int .i64 r] w (SameV w 0 E) := by
  have HE := hid hE
  have HC1 : Hid (∀ w', Below w.heap.size w w' → Calls Tryd.prog 44 #[.agg #[.slice m.A m.ros.length m.c, .int .i64 m.ticks, .slice m.sA m.spans.length m.sc, .slice m.wA m.wires.length m.wc]] w' fun e w'' => e = .returned (errV (planChk m.pl)) ∧ Below w'.heap.size w' w'') :=
    fun w' hb => plan_check m w' (hf.new hb) (hm.new hb)
  have HC2 : Hid (∀ w', Below w.heap.size w w' → Calls Tryd.prog 44 #[.agg #[.slice u.A u.ros.length u.c, .int .i64 u.ticks, .slice u.sA u.spans.length u.sc, .slice u.wA u.wires.length u.wc]] w' fun e w'' => e = .returned (errV (planChk u.pl)) ∧ Below w'.heap.size w' w'') :=
    fun w' hb => plan_check u w' (hf.new hb) (hu.new hb)
  have hlm : m.pl.code.length = m.ros.length := by simp [PM.pl]
  have hlu : u.pl.code.length = u.ros.length := by simp [PM.pl]
  have HS1 : Hid (planChk m.pl = 0 → planChk u.pl = 0 → E = 1 ∧ ∀ w', Below w.heap.size w w' → Calls Tryd.prog 85 #[.agg #[.slice m.A m.ros.length m.c, .int .i64 m.ticks, .slice m.sA m.spans.length m.sc, .slice m.wA m.wires.length m.wc], .int .i64 n, .int .i64 r] w'
      fun e w'' => ∃ A k c, Below w'.heap.size w' w'' ∧ (e = .returned (.tuple #[.slice A k c, errV 1]) ∨ (e = .returned (.tuple #[.slice A k c, .nilIface]) ∧ ∀ w', Below w.heap.size w w' → Calls Tryd.prog 85 #[.agg #[.slice u.A u.ros.length u.c, .int .i64 u.ticks, .slice u.sA u.spans.length u.sc, .slice u.wA u.wires.length u.wc], .int .i64 n, .int .i64 r] w'
        fun e w'' => e = .returned (.tuple #[.slice none 0 0, errV 1]) ∧ Below w'.heap.size w' w''))) := fun h1 h2 => by
    rcases h with ⟨h3, _⟩ | ⟨_, h3, _⟩ | ⟨_, _, h3, h4⟩
    · exact absurd h1 h3
    · exact absurd h2 h3
    · refine ⟨h3, fun w' hb => ?_⟩
      rw [hlm, hlu] at h4
      by_cases hb1 : r < 0 ∨ m.ros.length ≤ r ∨ n < 0 ∨ 2000 < n
      · refine (sight_bad_args w' m n r (hf.new hb) (hm.new hb) h1 hb1).mono fun e w'' h5 => ⟨none, 0, 0, h5.2, .inl ?_⟩
        rw [errV_pos (by decide)]; exact h5.1
      · obtain ⟨N, rfl⟩ : ∃ N : Nat, n = N := ⟨n.toNat, by omega⟩
        obtain ⟨R, rfl⟩ : ∃ R : Nat, r = R := ⟨r.toNat, by omega⟩
        refine (sight_run w' m N R (hf.new hb) (hm.new hb) h1 (by omega) (by omega)).mono ?_
        rintro e w'' ⟨A, c, he, _, _, hb2⟩
        refine ⟨A, N + 1, c, hb2, .inr ⟨he, fun w' hb => ?_⟩⟩
        refine (sight_bad_args w' u N R (hf.new hb) (hu.new hb) h2 (by omega)).mono fun e w'' h5 => ⟨?_, h5.2⟩
        rw [errV_pos (by decide)]; exact h5.1
  have HT : Hid ((planChk m.pl ≠ 0 → E = planChk m.pl) ∧ (planChk m.pl = 0 → planChk u.pl ≠ 0 → E = planChk u.pl)) := by
    rcases h with ⟨h3, h4⟩ | ⟨h5, h3, h4⟩ | ⟨h5, h6, h3, h4⟩
    · exact ⟨fun _ => h4, fun h => absurd h h3⟩
    · exact ⟨fun h => absurd h5 h, fun _ _ => h4⟩
    · exact ⟨fun h => absurd h5 h, fun _ h => absurd h6 h⟩
  generalize planChk m.pl = E1 at HC1 HS1 HT
  generalize planChk u.pl = E2 at HC2 HS1 HT
  obtain ⟨Q, hQ⟩ : ∃ Q, Q = SameV w 0 E := ⟨_, rfl⟩
  rw [← hQ]
  have HQ := hid hQ
  clear hQ h hlm hlu hE
  generalize m.ros.length = nn at HC1 HS1 ⊢
  generalize m.spans.length = ns at HC1 HS1 ⊢
  generalize m.wires.length = nw at HC1 HS1 ⊢
  generalize u.ros.length = un at HC2 HS1 ⊢
  generalize u.spans.length = us at HC2 HS1 ⊢
  generalize u.wires.length = uw at HC2 HS1 ⊢
  obtain ⟨w1, hw1⟩ : ∃ w1, w1 = (((w.alloc (.cells #[.slice m.A nn m.c, .int .i64 m.ticks, .slice m.sA ns m.sc, .slice m.wA nw m.wc] 31)).alloc (.cells #[.slice u.A un u.c, .int .i64 u.ticks, .slice u.sA us u.sc, .slice u.wA uw u.wc] 31)).alloc
    (.cells #[.slice m.A nn m.c, .int .i64 m.ticks, .slice m.sA ns m.sc, .slice m.wA nw m.wc, .slice u.A un u.c, .int .i64 u.ticks, .slice u.sA us u.sc, .slice u.wA uw u.wc] 31)) := ⟨_, rfl⟩
  have hb1 : Below w.heap.size w w1 := by rw [hw1]; exact (((Below.refl _ _).alloc (Nat.le_refl _) _).alloc (by simp) _).alloc (by simp; omega) _
  have hk0 : w1.heap[w.heap.size]? = some (.cells #[.slice m.A nn m.c, .int .i64 m.ticks, .slice m.sA ns m.sc, .slice m.wA nw m.wc] 31 (0, 0)) := by
    rw [hw1]; simp only [hp_alloc, sz_alloc]; repeat (first | rw [if_pos True.intro] | rw [if_pos rfl] | rw [if_neg (by omega)])
  have hk1 : w1.heap[w.heap.size + 1]? = some (.cells #[.slice u.A un u.c, .int .i64 u.ticks, .slice u.sA us u.sc, .slice u.wA uw u.wc] 31 (0, 0)) := by
    rw [hw1]; simp only [hp_alloc, sz_alloc]; repeat (first | rw [if_pos True.intro] | rw [if_pos rfl] | rw [if_neg (by omega)])
  have hk2 : w1.heap[w.heap.size + 1 + 1]? = some (.cells #[.slice m.A nn m.c, .int .i64 m.ticks, .slice m.sA ns m.sc, .slice m.wA nw m.wc, .slice u.A un u.c, .int .i64 u.ticks, .slice u.sA us u.sc, .slice u.wA uw u.wc] 31 (0, 0)) := by
    rw [hw1]; simp only [hp_alloc, sz_alloc]; repeat (first | rw [if_pos True.intro] | rw [if_pos rfl] | rw [if_neg (by omega)])
  have HB1 := hid hb1
  have HK0 := hid hk0
  have HK1 := hid hk1
  have HK2 := hid hk2
  clear hf hm hu hb1 hk0 hk1 hk2
  go_enter Tryd.func43, Tryd.ntmps43
  go_wp2_with fail
  rw [← hw1]
  clear hw1
  go_loopw [22] (fun v22 wr => ∃ k : Nat, k ≤ 2 ∧ v22 = .int .i64 k ∧ Below w1.heap.size w1 wr ∧ (1 ≤ k → E1 = 0) ∧ (2 ≤ k → E2 = 0)) (fun v22 _ => 2 - (intOf v22).toNat)
  case atStart => exact ⟨0, by omega, rfl, Below.refl _ _, fun h => by omega, fun h => by omega⟩
  case round =>
    obtain ⟨wo, rfl⟩ : ∃ wo : World, wo = wr := ⟨_, rfl⟩
    obtain ⟨k, hk, rfl, hbr, hz1, hz2⟩ := hrel
    have HBR := hid hbr
    have HZ1 := hid hz1
    have HZ2 := hid hz2
    have hk2 := (hbr.block _ (blk_lt HK2.out)).trans HK2.out
    clear hbr hz1 hz2
    rcases (show k = 0 ∨ k = 1 ∨ k = 2 by omega) with rfl | rfl | rfl
    · have g0 := blk_cell hk2 0
      have g1 := blk_cell hk2 1
      have g2 := blk_cell hk2 2
      have g3 := blk_cell hk2 3
      have hlt := blk_lt hk2
      simp at g0 g1 g2 g3
      clear hk2
      go_wp2_with fail
      have hba : Below wo.heap.size wo (wo.alloc (.cells #[.slice m.A nn m.c, .int .i64 m.ticks, .slice m.sA ns m.sc, .slice m.wA nw m.wc] 31)) := (Below.refl _ _).alloc (Nat.le_refl _) _
      refine (HC1.out _ (HB1.out.trans ((HBR.out.trans (hba.mono HBR.out.size)).mono HB1.out.size))).mono ?_
      rintro e w3 ⟨rfl, hb3⟩
      have HB3 := hid (HBR.out.trans ((hba.trans (hb3.mono hba.size)).mono HBR.out.size))
      clear hba hb3 g0 g1 g2 g3 hlt
      by_cases he : E1 = 0
      · have HEE := hid he
        rw [he, errV_zero]
        clear he
        go_wp2_with fail
        go_roundw
        case rel => exact ⟨1, by omega, by go_num, HB3.out, fun _ => HEE.out, fun h => by omega⟩
        case measure => simp [intOf]
      · have hEE := HT.out.1 he
        have hvv := errV_pos he
        rw [hvv]
        rw [← hEE] at hvv ⊢
        have HVV := hid hvv
        clear he hvv hEE
        go_wp2_with fail
        (first | go_ret2 | skip)
        rw [HQ.out]
        exact ⟨by rw [HVV.out]; rfl, HB1.out.trans (HB3.out.mono HB1.out.size)⟩
    · have g0 := blk_cell hk2 4
      have g1 := blk_cell hk2 5
      have g2 := blk_cell hk2 6
      have g3 := blk_cell hk2 7
      have hlt := blk_lt hk2
      simp at g0 g1 g2 g3
      clear hk2
      go_wp2_with fail
      have hba : Below wo.heap.size wo (wo.alloc (.cells #[.slice u.A un u.c, .int .i64 u.ticks, .slice u.sA us u.sc, .slice u.wA uw u.wc] 31)) := (Below.refl _ _).alloc (Nat.le_refl _) _
      refine (HC2.out _ (HB1.out.trans ((HBR.out.trans (hba.mono HBR.out.size)).mono HB1.out.size))).mono ?_
      rintro e w3 ⟨rfl, hb3⟩
      have HB3 := hid (HBR.out.trans ((hba.trans (hb3.mono hba.size)).mono HBR.out.size))
      clear hba hb3 g0 g1 g2 g3 hlt
      by_cases he : E2 = 0
      · have HEE := hid he
        rw [he, errV_zero]
        clear he
        go_wp2_with fail
        go_roundw
        case rel => exact ⟨2, by omega, by go_num, HB3.out, fun _ => HZ1.out (by omega), fun _ => HEE.out⟩
        case measure => simp [intOf]
      · have hEE := HT.out.2 (HZ1.out (by omega)) he
        have hvv := errV_pos he
        rw [hvv]
        rw [← hEE] at hvv ⊢
        have HVV := hid hvv
        clear he hvv hEE
        go_wp2_with fail
        (first | go_ret2 | skip)
        rw [HQ.out]
        exact ⟨by rw [HVV.out]; rfl, HB1.out.trans (HB3.out.mono HB1.out.size)⟩
    · have hk0 := (HBR.out.block _ (blk_lt HK0.out)).trans HK0.out
      have g0 := blk_cell hk0 0
      have g1 := blk_cell hk0 1
      have g2 := blk_cell hk0 2
      have g3 := blk_cell hk0 3
      have hlt := blk_lt hk0
      simp at g0 g1 g2 g3
      clear hk0 hk2
      obtain ⟨hE1, hrun⟩ := HS1.out (HZ1.out (by omega)) (HZ2.out (by omega))
      have HRUN := hid hrun
      have HV1 : Hid (errV E = errV 1) := by show errV E = errV 1; rw [hE1]
      clear hrun hE1
      go_wp2_with fail
      refine (HRUN.out _ (HB1.out.trans (HBR.out.mono HB1.out.size))).mono ?_
      rintro e w3 ⟨A3, k3, c3, hb3, hor⟩
      have HB3 := hid (HBR.out.trans (hb3.mono HBR.out.size))
      clear hb3 g0 g1 g2 g3 hlt HRUN
      rcases hor with rfl | ⟨rfl, hrun⟩
      · have hv := errV_pos (e := 1) (by decide)
        have HV := hid hv
        rw [hv]
        clear hv
        go_wp2_with fail
        (first | go_ret2 | skip)
        rw [HQ.out]
        exact ⟨by rw [HV1.out, HV.out]; rfl, HB1.out.trans (HB3.out.mono HB1.out.size)⟩
      · have hk1 := (HB3.out.block _ (blk_lt HK1.out)).trans HK1.out
        have g0 := blk_cell hk1 0
        have g1 := blk_cell hk1 1
        have g2 := blk_cell hk1 2
        have g3 := blk_cell hk1 3
        have hlt := blk_lt hk1
        simp at g0 g1 g2 g3
        have HRUN := hid hrun
        clear hk1 hrun
        go_wp2_with fail
        refine (HRUN.out _ (HB1.out.trans (HB3.out.mono HB1.out.size))).mono ?_
        rintro e w4 ⟨rfl, hb4⟩
        have HB4 := hid (HB3.out.trans (hb4.mono HB3.out.size))
        have hv := errV_pos (e := 1) (by decide)
        have HV := hid hv
        rw [hv]
        clear hb4 hv g0 g1 g2 g3 hlt
        go_wp2_with fail
        (first | go_ret2 | skip)
        rw [HQ.out]
        exact ⟨by rw [HV1.out, HV.out]; rfl, HB1.out.trans (HB4.out.mono HB1.out.size)⟩
end Go.Proofs.YtongkiccglaniaaDoor
