/- The walk of framelaw4.SightLong: it returns true at every input. -/
import Derived.Test.YtnighanlonkjbaaDoorSightW
import Derived.Test.YtnighanlonkjbaaDoorKernelCountsWalk
import Derived.Test.YtnighanlonkjbaaDoorSameState
namespace Go.Proofs.YtnighanlonkjbaaDoor
open Go.RowKit
set_option maxRecDepth 100000

/-- What is told of a plan, a number of ticks, and a room. -/
def runChk (p : Pl) (n r : Int) : Int := if planChk p ≠ 0 then planChk p else if r < 0 ∨ p.code.length ≤ r ∨ n < 0 ∨ 2000 < n then 1 else 0
theorem sight_bad_plan (w : World) (m : PM) (n r : Int) (hf : Forms w) (hm : PlanAt w m) (he : planChk m.pl ≠ 0) :
    Calls Tryd.prog 45 #[.agg #[.slice m.A m.ros.length m.c, .int .i64 m.ticks, .slice m.sA m.spans.length m.sc, .slice m.wA m.wires.length m.wc], .int .i64 n, .int .i64 r] w
      fun e w' => e = .returned (.tuple #[.slice none 0 0, .iface 119 (.int .i64 (planChk m.pl))]) ∧ Below w.heap.size w w' := by
  have HNEW : Hid (∀ w', Below w.heap.size w w' → Calls Tryd.prog 33 #[.agg #[.slice m.A m.ros.length m.c, .int .i64 m.ticks, .slice m.sA m.spans.length m.sc, .slice m.wA m.wires.length m.wc]] w' fun e w'' => e = .returned (.tuple #[.pointer none, .iface 119 (.int .i64 (planChk m.pl))]) ∧ Below w'.heap.size w' w'') := fun w' hb => by
    have := kern_new_bad w' m (hf.new hb) (hm.new hb) he
    rw [errV_pos he] at this; exact this
  generalize planChk m.pl = E at HNEW ⊢
  generalize m.ros.length = nn at HNEW ⊢
  generalize m.spans.length = ns at HNEW ⊢
  generalize m.wires.length = nw at HNEW ⊢
  obtain ⟨A0, c0, _, tk, sA0, sc0, _, wA0, wc0, _⟩ := m
  simp only [] at HNEW ⊢
  clear hf hm he
  go_enter Tryd.func45, Tryd.ntmps45
  go_wp2_with (go_at_call 33; refine (HNEW.out _ ((Below.refl _ _).alloc (Nat.le_refl _) _)).mono ?_; rintro e w1 ⟨rfl, hb1⟩)
  go_ret2
  exact ⟨rfl, ((Below.refl _ _).alloc (Nat.le_refl _) _).trans (hb1.mono (by simp))⟩
theorem sight_bad_args (w : World) (m : PM) (n r : Int) (hf : Forms w) (hm : PlanAt w m) (he : planChk m.pl = 0) (hb : r < 0 ∨ m.ros.length ≤ r ∨ n < 0 ∨ 2000 < n) :
    Calls Tryd.prog 45 #[.agg #[.slice m.A m.ros.length m.c, .int .i64 m.ticks, .slice m.sA m.spans.length m.sc, .slice m.wA m.wires.length m.wc], .int .i64 n, .int .i64 r] w
      fun e w' => e = .returned (.tuple #[.slice none 0 0, .iface 119 (.int .i64 1)]) ∧ Below w.heap.size w w' := by
  have HNEW : Hid (∀ w', Below w.heap.size w w' → Calls Tryd.prog 33 #[.agg #[.slice m.A m.ros.length m.c, .int .i64 m.ticks, .slice m.sA m.spans.length m.sc, .slice m.wA m.wires.length m.wc]] w' fun e w'' => (∃ kb : Nat, e = .returned (.tuple #[.pointer (some ⟨kb, 0, none⟩), .nilIface])) ∧ Below w'.heap.size w' w'') := fun w' hb =>
    (kern_new_ok w' m (hf.new hb) (hm.new hb) he).mono fun e w'' ⟨kb, M, h1, _, _, _, h5⟩ => ⟨⟨kb, h1⟩, h5⟩
  have hnn : m.ros.length ≤ 5 := by have := (planChk_ok he).most5; simpa [PM.pl] using this
  generalize m.ros.length = nn at HNEW hb hnn ⊢
  generalize m.spans.length = ns at HNEW ⊢
  generalize m.wires.length = nw at HNEW ⊢
  obtain ⟨A0, c0, _, tk, sA0, sc0, _, wA0, wc0, _⟩ := m
  simp only [] at HNEW ⊢
  clear hf hm he
  by_cases q1 : r < 0
  · clear hb
    go_enter Tryd.func45, Tryd.ntmps45
    go_wp2_with (go_at_call 33; refine (HNEW.out _ ((Below.refl _ _).alloc (Nat.le_refl _) _)).mono ?_; rintro e w1 ⟨⟨kb, rfl⟩, hb1⟩; have p0 := (hb1.cell (p := ⟨w.heap.size, 0, none⟩) (by simp)).trans (blk_cell (heap_alloc_new w _) 0); simp at p0; have hltp := cell_lt p0; have HB1 := hid hb1; clear hb1)
    go_ret2
    exact ⟨rfl, ((Below.refl _ _).alloc (Nat.le_refl _) _).trans (HB1.out.mono (by simp))⟩
  by_cases q2 : (nn : Int) ≤ r
  · have q1' : 0 ≤ r := by omega
    clear hb q1
    go_enter Tryd.func45, Tryd.ntmps45
    go_wp2_with (go_at_call 33; refine (HNEW.out _ ((Below.refl _ _).alloc (Nat.le_refl _) _)).mono ?_; rintro e w1 ⟨⟨kb, rfl⟩, hb1⟩; have p0 := (hb1.cell (p := ⟨w.heap.size, 0, none⟩) (by simp)).trans (blk_cell (heap_alloc_new w _) 0); simp at p0; have hltp := cell_lt p0; have HB1 := hid hb1; clear hb1)
    go_ret2
    exact ⟨rfl, ((Below.refl _ _).alloc (Nat.le_refl _) _).trans (HB1.out.mono (by simp))⟩
  have q1' : 0 ≤ r := by omega
  have q2' : r < nn := by omega
  by_cases q3 : n < 0
  · clear hb q1 q2
    go_enter Tryd.func45, Tryd.ntmps45
    go_wp2_with (go_at_call 33; refine (HNEW.out _ ((Below.refl _ _).alloc (Nat.le_refl _) _)).mono ?_; rintro e w1 ⟨⟨kb, rfl⟩, hb1⟩; have p0 := (hb1.cell (p := ⟨w.heap.size, 0, none⟩) (by simp)).trans (blk_cell (heap_alloc_new w _) 0); simp at p0; have hltp := cell_lt p0; have HB1 := hid hb1; clear hb1)
    go_ret2
    exact ⟨rfl, ((Below.refl _ _).alloc (Nat.le_refl _) _).trans (HB1.out.mono (by simp))⟩
  · have q3' : 0 ≤ n := by omega
    have q4 : 2000 < n := by omega
    clear hb q1 q2 q3
    go_enter Tryd.func45, Tryd.ntmps45
    go_wp2_with (go_at_call 33; refine (HNEW.out _ ((Below.refl _ _).alloc (Nat.le_refl _) _)).mono ?_; rintro e w1 ⟨⟨kb, rfl⟩, hb1⟩; have p0 := (hb1.cell (p := ⟨w.heap.size, 0, none⟩) (by simp)).trans (blk_cell (heap_alloc_new w _) 0); simp at p0; have hltp := cell_lt p0; have HB1 := hid hb1; clear hb1)
    go_ret2
    exact ⟨rfl, ((Below.refl _ _).alloc (Nat.le_refl _) _).trans (HB1.out.mono (by simp))⟩

/-- What a good run leaves, its first state laid open. -/
def RunZero (w : World) (n : Nat) (e : Ending) (w' : World) : Prop :=
  ∃ b off c, e = .returned (.tuple #[.slice (some ⟨b, off, none⟩) (n + 1) c, .nilIface]) ∧ StIn w' b off St.zero ∧ b < w'.heap.size ∧ n + 1 ≤ c ∧ c ≤ maxLen ∧ Below w.heap.size w w'
theorem SightRun.zero {w w' : World} {p : Pl} {r n : Nat} {e : Ending} (hr : r < p.code.length) (h : SightRun w p r n e w') : RunZero w n e w' := by
  obtain ⟨A, c, h1, h2, _, h4⟩ := h
  have hg : (statesTo p r (n + 1))[0]? = some St.zero := by rw [statesTo_get p r (n + 1) 0 (by omega), stAtT_zero hr]
  obtain ⟨b, off, cur, rfl, hh, hsz, hi, hnc, hcm, hx⟩ := h2.elem St.cells St.len (by decide) hg
  have hc : ∀ j u, St.zero.cells[j]? = some u → w'.cell? ⟨b, off + j, none⟩ = some u := fun j u hu => by
    have := hx j u hu
    rw [Nat.zero_mul, Nat.zero_add] at this
    exact (blk_cell hh _).trans this
  exact ⟨b, off, c, h1, ⟨hc 0 _ rfl, hc 1 _ rfl, hc 2 _ rfl, hc 3 _ rfl, hc 4 _ rfl, hc 5 _ rfl, hc 6 _ rfl, hc 7 _ rfl⟩, blk_lt hh, hnc, hcm, h4⟩
def RunOne (w : World) (e : Ending) (w' : World) : Prop :=
  ∃ b off c, e = .returned (.tuple #[.slice (some ⟨b, off, none⟩) 3 c, .nilIface]) ∧ w'.cell? ⟨b, off + 16 + 1, none⟩ = some (.int .i64 1) ∧ 3 ≤ c ∧ c ≤ maxLen ∧ Below w.heap.size w w'
theorem count_run {w : World} {B c1 c2 : Nat} {A1 A2 : Option Addr} {rows : List Ro} (hf : Forms w) (h : Counted w B 1 A1 c1 rows A2 c2) :
    Calls Tryd.prog 45 #[.agg #[.slice A1 1 c1, .int .i64 1, .slice A2 1 c2, .slice none 0 0], .int .i64 2, .int .i64 0] w (RunOne w) := by
  have hm := h.many
  have hpl := counted_pl h
  have hk := countPl_ok 1 (by decide) (by decide)
  have hrun := sight_run w (countPM 1 A1 c1 rows A2 c2) 2 0 hf (counted_plan h (by decide)) (by rw [hpl]; exact hk) (by decide) (by show 0 < rows.length; omega)
  rw [hpl] at hrun
  simp only [countPM, hm] at hrun
  refine Calls.mono hrun ?_
  rintro e w' ⟨A, c, h1, h2, _, h4⟩
  have hg : (statesTo (countPl 1) 0 3)[2]? = some (stAtT (countPl 1) 0 2) := statesTo_get _ _ 3 2 (by decide)
  have hs : stAtT (countPl 1) 0 2 = ⟨0, 1, 1, 0, 0, 0, 0, false⟩ := by
    have e1 := count_new 1
    have e2 := count_tick 1 0 (by decide) (by decide) (by decide)
    have e3 := count_tick 1 1 (by decide) (by decide) (by decide)
    have hk2 : runK (countPl 1) 2 = countK 1 2 := by
      show (tick (countPl 1) (tick (countPl 1) (kNew (countPl 1))).2).2 = _
      rw [e1, e2, e3]
    unfold stAtT
    rw [hk2]
    rfl
  rw [hs] at hg
  obtain ⟨b, off, cur, rfl, hh, hsz, hi, hnc, hcm, hx⟩ := h2.elem St.cells St.len (by decide) hg
  exact ⟨b, off, c, h1, (blk_cell hh _).trans (hx 1 _ rfl), hnc, hcm, h4⟩

set_option maxHeartbeats 2000000 in
theorem sightLong_walk {w : World} (hf : Forms w) (m : PM) (hm : PlanAt w m) (n r : Int) (hn : Fits n) (_hr : Fits r) :
    Calls Tryd.prog 11 #[.agg #[.slice m.A m.ros.length m.c, .int .i64 m.ticks, .slice m.sA m.spans.length m.sc, .slice m.wA m.wires.length m.wc], .int .i64 n, .int .i64 r] w fun e w' => e = .returned (.bool true) ∧ Below w.heap.size w w' := by
  have HF := hid hf
  by_cases hgood : planChk m.pl = 0 ∧ ¬ (r < 0 ∨ m.ros.length ≤ r ∨ n < 0 ∨ 2000 < n)
  · obtain ⟨he, hb⟩ := hgood
    obtain ⟨N, rfl⟩ : ∃ N : Nat, n = N := ⟨n.toNat, by omega⟩
    obtain ⟨R, rfl⟩ : ∃ R : Nat, r = R := ⟨r.toNat, by omega⟩
    have hN : N ≤ 2000 := by omega
    have hR : R < m.ros.length := by omega
    have HRUN : Hid (∀ w', Below w.heap.size w w' → Calls Tryd.prog 45 #[.agg #[.slice m.A m.ros.length m.c, .int .i64 m.ticks, .slice m.sA m.spans.length m.sc, .slice m.wA m.wires.length m.wc], .int .i64 N, .int .i64 R] w' (RunZero w' N)) := fun w' hb' =>
      (sight_run w' m N R (hf.new hb') (hm.new hb') he hN hR).mono fun e w'' h => h.zero (by simpa [PM.pl] using hR)
    generalize m.ros.length = nn at HRUN ⊢
    generalize m.spans.length = ns at HRUN ⊢
    generalize m.wires.length = nw at HRUN ⊢
    obtain ⟨A0, c0, _, tk, sA0, sc0, _, wA0, wc0, _⟩ := m
    simp only [] at HRUN ⊢
    have hgd := state_guard
    have heq : ∀ w, (binOp .eql 25 (.agg #[.int .i64 0, .int .i64 0, .int .i64 0, .int .i64 0, .int .i64 0, .int .i64 0, .int .i64 0, .bool false]) (.agg #[.int .i64 0, .int .i64 0, .int .i64 0, .int .i64 0, .int .i64 0, .int .i64 0, .int .i64 0, .bool false])).run Tryd.prog w = .ok (.bool true) w := fun w => by
      have := state_eql St.zero St.zero w
      rw [stEq_refl] at this; exact this
    clear hf hm he hb hn _hr hR
    go_enter Tryd.func11, Tryd.ntmps11
    go_upto_region 2 with (go_at_call 45; refine (HRUN.out _ ((Below.refl _ _).alloc (Nat.le_refl _) _)).mono ?_; rintro e w1 ⟨b, off, c, rfl, hst, hbl, hnc, hcm, hb1⟩; have HST := hid hst; have HB1 := hid (((Below.refl w.heap.size w).alloc (Nat.le_refl _) _).trans (hb1.mono (by simp))); clear hst hb1)
    go_upto_region 7 with (first | (go_at_call 34; refine (counting_any 1 (by decide) _).mono ?_; rintro e w2 ⟨A1, c1, rows, A2, c2, rfl, hcnt, hb2⟩; have HC := hid (count_run (HF.out.new (HB1.out.trans (hb2.mono HB1.out.size))) hcnt); have HB2 := hid hb2; clear hcnt hb2) | (go_at_call 45; refine (HC.out).mono ?_; rintro e w3 ⟨b2, off2, c3, rfl, h17, hnc3, hcm3, hb3⟩; have HB3 := hid (HB2.out.trans (hb3.mono HB2.out.size)); have hlt17 := cell_lt h17; clear hb3))
    obtain ⟨z0, z1, z2, z3, z4, z5, z6, z7⟩ := HST.out
    have kc := fun j => (HB3.out.cell (p := ⟨b, j, none⟩) hbl)
    have y0 := (kc off).trans z0
    have y1 := (kc (off + 1)).trans z1
    have y2 := (kc (off + 2)).trans z2
    have y3 := (kc (off + 3)).trans z3
    have y4 := (kc (off + 4)).trans z4
    have y5 := (kc (off + 5)).trans z5
    have y6 := (kc (off + 6)).trans z6
    have y7 := (kc (off + 7)).trans z7
    simp only [St.zero] at y0 y1 y2 y3 y4 y5 y6 y7
    unfold maxLen at hcm hcm3
    have hn1 : 0 < N + 1 := by omega
    clear z0 z1 z2 z3 z4 z5 z6 z7 kc h17
    go_wp2_with fail
    go_ret
    exact ⟨rfl, HB1.out.trans (HB3.out.mono HB1.out.size)⟩
  · obtain ⟨E, HBAD⟩ : ∃ E : Int, Hid (∀ w', Below w.heap.size w w' → Calls Tryd.prog 45 #[.agg #[.slice m.A m.ros.length m.c, .int .i64 m.ticks, .slice m.sA m.spans.length m.sc, .slice m.wA m.wires.length m.wc], .int .i64 n, .int .i64 r] w'
        fun e w'' => e = .returned (.tuple #[.slice none 0 0, .iface 119 (.int .i64 E)]) ∧ Below w'.heap.size w' w'') := by
      by_cases he : planChk m.pl = 0
      · exact ⟨1, fun w' hb => sight_bad_args w' m n r (hf.new hb) (hm.new hb) he (Decidable.byContradiction fun h => hgood ⟨he, h⟩)⟩
      · exact ⟨_, fun w' hb => sight_bad_plan w' m n r (hf.new hb) (hm.new hb) he⟩
    generalize m.ros.length = nn at HBAD ⊢
    generalize m.spans.length = ns at HBAD ⊢
    generalize m.wires.length = nw at HBAD ⊢
    obtain ⟨A0, c0, _, tk, sA0, sc0, _, wA0, wc0, _⟩ := m
    simp only [] at HBAD ⊢
    clear hf hm hgood hn _hr
    go_enter Tryd.func11, Tryd.ntmps11
    go_upto_region 2 with (go_at_call 45; refine (HBAD.out _ ((Below.refl _ _).alloc (Nat.le_refl _) _)).mono ?_; rintro e w1 ⟨rfl, hb1⟩; have HB1 := hid (((Below.refl w.heap.size w).alloc (Nat.le_refl _) _).trans (hb1.mono (by simp))); clear hb1)
    go_wp2_with (first | (go_at_call 34; refine (counting_any 1 (by decide) _).mono ?_; rintro e w2 ⟨A1, c1, rows, A2, c2, rfl, hcnt, hb2⟩; have HC := hid (count_run (HF.out.new (HB1.out.trans (hb2.mono HB1.out.size))) hcnt); have HB2 := hid hb2; clear hcnt hb2) | (go_at_call 45; refine (HC.out).mono ?_; rintro e w3 ⟨b2, off2, c3, rfl, h17, hnc3, hcm3, hb3⟩; have HB3 := hid (HB2.out.trans (hb3.mono HB2.out.size)); have hlt17 := cell_lt h17; unfold maxLen at hcm3; clear hb3))
    go_ret
    exact ⟨rfl, HB1.out.trans (HB3.out.mono HB1.out.size)⟩
end Go.Proofs.YtnighanlonkjbaaDoor
