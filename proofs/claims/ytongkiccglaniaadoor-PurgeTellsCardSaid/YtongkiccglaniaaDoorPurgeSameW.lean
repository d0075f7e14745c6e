/- Package purge: the contract of Same, for plans that are right. -/
import Derived.Test.YtongkiccglaniaaDoorSightW
import Derived.Test.YtongkiccglaniaaDoorSameU
import Derived.Test.YtongkiccglaniaaDoorFlowsLaw
namespace Go.Proofs.YtongkiccglaniaaDoor
open Go.RowKit
set_option maxRecDepth 100000
attribute [local go_sem ↓] Go.wp_at_zero Go.wp_at_succ

noncomputable def sameAt (p q : Pl) (r n : Nat) : Int := firstOf (fun t => !stEq (stAtT p r t) (stAtT q r t)) (n + 1)
def SameV (w : World) (v e : Int) (en : Ending) (w' : World) : Prop := en = .returned (.tuple #[.int .i64 v, errV e]) ∧ Below w.heap.size w w'
/-- A state of a row of them. -/
theorem states_get {w : World} {p : Pl} {r n t c : Nat} {A : Option Addr} (h : Row w 40 8 A n c ((statesTo p r n).flatMap St.cells)) (ht : t < n) :
    ∃ b off, A = some ⟨b, off, none⟩ ∧ StIn w b (off + t * 8) (stAtT p r t) ∧ b < w.heap.size ∧ n ≤ c ∧ c ≤ maxLen := by
  obtain ⟨b, off, cur, hA, hh, hsz, hi, hnc, hcm, hx⟩ := h.elem St.cells St.len (by decide) (statesTo_get p r n t ht)
  have hc : ∀ j u, (stAtT p r t).cells[j]? = some u → w.cell? ⟨b, off + t * 8 + j, none⟩ = some u := fun j u hu => by
    rw [Nat.add_assoc]; exact (blk_cell hh _).trans (hx j u hu)
  exact ⟨b, off, hA, ⟨hc 0 _ rfl, hc 1 _ rfl, hc 2 _ rfl, hc 3 _ rfl, hc 4 _ rfl, hc 5 _ rfl, hc 6 _ rfl, hc 7 _ rfl⟩, blk_lt hh, hnc, hcm⟩

set_option maxHeartbeats 4000000 in
theorem purgeSame_good (w : World) (m u : PM) (n r : Nat) (hf : Forms w) (hm : PlanAt w m) (hu : PlanAt w u) (he : planChk m.pl = 0) (hq : planChk u.pl = 0) (hn : n ≤ 2000) (hr : r < m.ros.length) (hr2 : r < u.ros.length) :
    Calls Tryd.prog 43 #[.agg #[.slice m.A m.ros.length m.c, .int .i64 m.ticks, .slice m.sA m.spans.length m.sc, .slice m.wA m.wires.length m.wc], .agg #[.slice u.A u.ros.length u.c, .int .i64 u.ticks, .slice u.sA u.spans.length u.sc, .slice u.wA u.wires.length u.wc], .int .i64 n, .int .i64 r] w (SameV w (sameAt m.pl u.pl r n) 0) := by
  have HC1 : Hid (∀ w', Below w.heap.size w w' → Calls Tryd.prog 44 #[.agg #[.slice m.A m.ros.length m.c, .int .i64 m.ticks, .slice m.sA m.spans.length m.sc, .slice m.wA m.wires.length m.wc]] w' fun e w'' => e = .returned .nilIface ∧ Below w'.heap.size w' w'') :=
    fun w' hb => (plan_check m w' (hf.new hb) (hm.new hb)).mono fun e w'' h => by rw [he, errV_zero] at h; exact h
  have HC2 : Hid (∀ w', Below w.heap.size w w' → Calls Tryd.prog 44 #[.agg #[.slice u.A u.ros.length u.c, .int .i64 u.ticks, .slice u.sA u.spans.length u.sc, .slice u.wA u.wires.length u.wc]] w' fun e w'' => e = .returned .nilIface ∧ Below w'.heap.size w' w'') :=
    fun w' hb => (plan_check u w' (hf.new hb) (hu.new hb)).mono fun e w'' h => by rw [hq, errV_zero] at h; exact h
  have HS1 : Hid (∀ w', Below w.heap.size w w' → Calls Tryd.prog 85 #[.agg #[.slice m.A m.ros.length m.c, .int .i64 m.ticks, .slice m.sA m.spans.length m.sc, .slice m.wA m.wires.length m.wc], .int .i64 n, .int .i64 r] w' (SightRun w' m.pl r n)) :=
    fun w' hb => sight_run w' m n r (hf.new hb) (hm.new hb) he hn hr
  have HS2 : Hid (∀ w', Below w.heap.size w w' → Calls Tryd.prog 85 #[.agg #[.slice u.A u.ros.length u.c, .int .i64 u.ticks, .slice u.sA u.spans.length u.sc, .slice u.wA u.wires.length u.wc], .int .i64 n, .int .i64 r] w' (SightRun w' u.pl r n)) :=
    fun w' hb => sight_run w' u n r (hf.new hb) (hu.new hb) hq hn hr2
  generalize m.pl = p at HS1 ⊢
  generalize u.pl = q at HS2 ⊢
  obtain ⟨Q, hQ⟩ : ∃ Q, Q = SameV w (sameAt p q r n) 0 := ⟨_, rfl⟩
  rw [← hQ]
  have HQ := hid hQ
  clear hQ
  generalize m.ros.length = nn at HC1 HS1 ⊢
  generalize m.spans.length = ns at HC1 HS1 ⊢
  generalize m.wires.length = nw at HC1 HS1 ⊢
  generalize u.ros.length = un at HC2 HS2 ⊢
  generalize u.spans.length = us at HC2 HS2 ⊢
  generalize u.wires.length = uw at HC2 HS2 ⊢
  obtain ⟨w1, hw1⟩ : ∃ w1, w1 = (((w.alloc (.cells #[.slice m.A nn m.c, .int .i64 m.ticks, .slice m.sA ns m.sc, .slice m.wA nw m.wc] 31)).alloc (.cells #[.slice u.A un u.c, .int .i64 u.ticks, .slice u.sA us u.sc, .slice u.wA uw u.wc] 31)).alloc
    (.cells #[.slice m.A nn m.c, .int .i64 m.ticks, .slice m.sA ns m.sc, .slice m.wA nw m.wc, .slice u.A un u.c, .int .i64 u.ticks, .slice u.sA us u.sc, .slice u.wA uw u.wc] 31)) := ⟨_, rfl⟩
  have hb1 : Below w.heap.size w w1 := by rw [hw1]; exact (((Below.refl _ _).alloc (Nat.le_refl _) _).alloc (by simp) _).alloc (by simp; omega) _
  have hk0 : w1.heap[w.heap.size]? = some (.cells #[.slice m.A nn m.c, .int .i64 m.ticks, .slice m.sA ns m.sc, .slice m.wA nw m.wc] 31 (0, 0)) := by
    rw [hw1]; simp only [hp_alloc, sz_alloc]; repeat (first | rw [if_pos True.intro] | rw [if_pos rfl] | rw [if_neg (by omega)])
  have hk1 : w1.heap[w.heap.size + 1]? = some (.cells #[.slice u.A un u.c, .int .i64 u.ticks, .slice u.sA us u.sc, .slice u.wA uw u.wc] 31 (0, 0)) := by
    rw [hw1]; simp only [hp_alloc, sz_alloc]; repeat (first | rw [if_pos True.intro] | rw [if_pos rfl] | rw [if_neg (by omega)])
  have hk2 : w1.heap[w.heap.size + 1 + 1]? = some (.cells #[.slice m.A nn m.c, .int .i64 m.ticks, .slice m.sA ns m.sc, .slice m.wA nw m.wc, .slice u.A un u.c, .int .i64 u.ticks, .slice u.sA us u.sc, .slice u.wA uw u.wc] 31 (0, 0)) := by
    rw [hw1]; simp only [hp_alloc, sz_alloc]; repeat (first | rw [if_pos True.intro] | rw [if_pos rfl] | rw [if_neg (by omega)])
  have HB1 := hid hb1
  have HK0 := hid hk0
  have HK1 := hid hk1
  have HK2 := hid hk2
  clear hf hm hu he hq hn hr hr2 hb1 hk0 hk1 hk2
  go_enter Tryd.func43, Tryd.ntmps43
  go_wp2_with fail
  rw [← hw1]
  clear hw1
  go_loopw [22] (fun v22 wr => ∃ k : Nat, k ≤ 2 ∧ v22 = .int .i64 k ∧ Below w1.heap.size w1 wr) (fun v22 _ => 2 - (intOf v22).toNat)
  case atStart => exact ⟨0, by omega, rfl, Below.refl _ _⟩
  case round =>
    obtain ⟨wo, rfl⟩ : ∃ wo : World, wo = wr := ⟨_, rfl⟩
    obtain ⟨k, hk, rfl, hbr⟩ := hrel
    have HBR := hid hbr
    have hk2 := (hbr.block _ (blk_lt HK2.out)).trans HK2.out
    clear hbr
    rcases (show k = 0 ∨ k = 1 ∨ k = 2 by omega) with rfl | rfl | rfl
    · have g0 := blk_cell hk2 0
      have g1 := blk_cell hk2 1
      have g2 := blk_cell hk2 2
      have g3 := blk_cell hk2 3
      have hlt := blk_lt hk2
      simp at g0 g1 g2 g3
      clear hk2
      go_wp2_with fail
      have hba : Below wo.heap.size wo (wo.alloc (.cells #[.slice m.A nn m.c, .int .i64 m.ticks, .slice m.sA ns m.sc, .slice m.wA nw m.wc] 31)) := (Below.refl _ _).alloc (Nat.le_refl _) _
      refine (HC1.out _ (HB1.out.trans ((HBR.out.trans (hba.mono HBR.out.size)).mono HB1.out.size))).mono ?_
      rintro e w3 ⟨rfl, hb3⟩
      have HB3 := hid (HBR.out.trans ((hba.trans (hb3.mono hba.size)).mono HBR.out.size))
      clear hba hb3 g0 g1 g2 g3 hlt
      go_wp2_with fail
      go_roundw
      case rel => exact ⟨1, by omega, by go_num, HB3.out⟩
      case measure => simp [intOf]
    · have g0 := blk_cell hk2 4
      have g1 := blk_cell hk2 5
      have g2 := blk_cell hk2 6
      have g3 := blk_cell hk2 7
      have hlt := blk_lt hk2
      simp at g0 g1 g2 g3
      clear hk2
      go_wp2_with fail
      have hba : Below wo.heap.size wo (wo.alloc (.cells #[.slice u.A un u.c, .int .i64 u.ticks, .slice u.sA us u.sc, .slice u.wA uw u.wc] 31)) := (Below.refl _ _).alloc (Nat.le_refl _) _
      refine (HC2.out _ (HB1.out.trans ((HBR.out.trans (hba.mono HBR.out.size)).mono HB1.out.size))).mono ?_
      rintro e w3 ⟨rfl, hb3⟩
      have HB3 := hid (HBR.out.trans ((hba.trans (hb3.mono hba.size)).mono HBR.out.size))
      clear hba hb3 g0 g1 g2 g3 hlt
      go_wp2_with fail
      go_roundw
      case rel => exact ⟨2, by omega, by go_num, HB3.out⟩
      case measure => simp [intOf]
    · have hk0 := (HBR.out.block _ (blk_lt HK0.out)).trans HK0.out
      have g0 := blk_cell hk0 0
      have g1 := blk_cell hk0 1
      have g2 := blk_cell hk0 2
      have g3 := blk_cell hk0 3
      have hlt := blk_lt hk0
      simp at g0 g1 g2 g3
      clear hk0 hk2
      go_wp2_with fail
      refine (HS1.out _ (HB1.out.trans (HBR.out.mono HB1.out.size))).mono ?_
      rintro e w3 ⟨A3, c3, rfl, hr3, _, hb3⟩
      have HB3 := hid (HBR.out.trans (hb3.mono HBR.out.size))
      have HR3 := hid hr3
      clear hb3 hr3 g0 g1 g2 g3 hlt
      have hk1 := (HB3.out.block _ (blk_lt HK1.out)).trans HK1.out
      have g0 := blk_cell hk1 0
      have g1 := blk_cell hk1 1
      have g2 := blk_cell hk1 2
      have g3 := blk_cell hk1 3
      have hlt := blk_lt hk1
      simp at g0 g1 g2 g3
      clear hk1
      go_wp2_with fail
      refine (HS2.out _ (HB1.out.trans (HB3.out.mono HB1.out.size))).mono ?_
      rintro e w4 ⟨A4, c4, rfl, hr4, _, hb4⟩
      have HB4 := hid (HB3.out.trans (hb4.mono HB3.out.size))
      have HR4 := hid hr4
      have HX3 := hid (HR3.out.new hb4)
      clear hb4 hr4 HR3 g0 g1 g2 g3 hlt
      go_wp2_with fail
      go_loopw [54] (fun v54 wr => ∃ t : Nat, t ≤ n + 1 ∧ v54 = .int .i64 t ∧ Below w4.heap.size w4 wr ∧ ∀ j, j < t → (!stEq (stAtT p r j) (stAtT q r j)) = false) (fun v54 _ => n + 1 - (intOf v54).toNat)
      case atStart => exact ⟨0, by omega, rfl, Below.refl _ _, fun j hj => by omega⟩
      case round =>
        obtain ⟨wq, rfl⟩ : ∃ wq : World, wq = wr := ⟨_, rfl⟩
        obtain ⟨t, ht, rfl, hbq, hno⟩ := hrel
        have HBQ := hid hbq
        have HNO := hid hno
        clear hno
        by_cases htn : t < n + 1
        · obtain ⟨b3, o3, rfl, ⟨x0, x1, x2, x3, x4, x5, x6, x7⟩, hl3, hn3, hc3⟩ := states_get (HX3.out.new hbq) htn
          obtain ⟨b4, o4, rfl, ⟨y0, y1, y2, y3, y4, y5, y6, y7⟩, hl4, hn4, hc4⟩ := states_get (HR4.out.new hbq) htn
          have hneq : ∀ w, _ := fun w => state_neq (stAtT p r t) (stAtT q r t) w
          have hgd := state_guard
          obtain ⟨z, hz⟩ : ∃ z, z = !stEq (stAtT p r t) (stAtT q r t) := ⟨_, rfl⟩
          rw [← hz] at hneq
          have HZ := hid hz
          generalize stAtT p r t = sx at x0 x1 x2 x3 x4 x5 x6 x7 hneq
          generalize stAtT q r t = sy at y0 y1 y2 y3 y4 y5 y6 y7 hneq
          obtain ⟨px, a0, a1, a2, a3, a4, a5, fx⟩ := sx
          obtain ⟨py, d0, d1, d2, d3, d4, d5, fy⟩ := sy
          simp only [] at x0 x1 x2 x3 x4 x5 x6 x7 y0 y1 y2 y3 y4 y5 y6 y7 hneq
          unfold maxLen at hc3 hc4
          have HBA : Hid (Below w4.heap.size w4 (wq.alloc (.cells #[.int .i64 px, .int .i64 a0, .int .i64 a1, .int .i64 a2, .int .i64 a3, .int .i64 a4, .int .i64 a5, .bool fx] 40))) := HBQ.out.alloc HBQ.out.size _
          clear hz hbq
          cases z with
          | true =>
            go_wp2_with fail
            go_quiet (fail)
            go_wp2_with fail
            (first | go_ret2 | skip)
            rw [HQ.out]
            exact ⟨by unfold sameAt; rw [firstOf_hit HZ.out.symm HNO.out htn]; rfl, HB1.out.trans ((HB4.out.trans ((below_drawn HBA.out _).mono HB4.out.size)).mono HB1.out.size)⟩
          | false =>
            go_wp2_with fail
            go_quiet (fail)
            go_wp2_with fail
            go_roundw
            case rel =>
              refine ⟨t + 1, by omega, by go_num, below_drawn HBA.out _, fun j hj => ?_⟩
              by_cases e : j = t
              · subst e; exact HZ.out.symm
              · exact HNO.out j (by omega)
            case measure => simp [intOf]; omega
        · obtain rfl : t = n + 1 := by omega
          clear hbq
          go_wp2_with fail
          (first | go_ret2 | skip)
          rw [HQ.out]
          exact ⟨by unfold sameAt; rw [firstOf_none HNO.out]; rfl, HB1.out.trans ((HB4.out.trans (HBQ.out.mono HB4.out.size)).mono HB1.out.size)⟩
end Go.Proofs.YtongkiccglaniaaDoor
