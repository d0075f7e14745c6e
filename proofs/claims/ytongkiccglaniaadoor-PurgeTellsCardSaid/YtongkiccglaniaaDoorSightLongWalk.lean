/- The walk of framelaw4.SightLong: it returns true at every input. -/
import Derived.Test.YtongkiccglaniaaDoorSightW
import Derived.Test.YtongkiccglaniaaDoorKernelCountsWalk
import Derived.Test.YtongkiccglaniaaDoorSameU
namespace Go.Proofs.YtongkiccglaniaaDoor
open Go.RowKit
set_option maxRecDepth 100000

/-- What is told of a plan, a number of ticks, and a room. -/
def runChk (p : Pl) (n r : Int) : Int := if planChk p ≠ 0 then planChk p else if r < 0 ∨ p.code.length ≤ r ∨ n < 0 ∨ 2000 < n then 1 else 0
theorem sight_bad_plan (w : World) (m : PM) (n r : Int) (hf : Forms w) (hm : PlanAt w m) (he : planChk m.pl ≠ 0) :
    Calls Tryd.prog 85 #[.agg #[.slice m.A m.ros.length m.c, .int .i64 m.ticks, .slice m.sA m.spans.length m.sc, .slice m.wA m.wires.length m.wc], .int .i64 n, .int .i64 r] w
      fun e w' => e = .returned (.tuple #[.slice none 0 0, .iface 125 (.int .i64 (planChk m.pl))]) ∧ Below w.heap.size w w' := by
  have HNEW : Hid (∀ w', Below w.heap.size w w' → Calls Tryd.prog 28 #[.agg #[.slice m.A m.ros.length m.c, .int .i64 m.ticks, .slice m.sA m.spans.length m.sc, .slice m.wA m.wires.length m.wc]] w' fun e w'' => e = .returned (.tuple #[.pointer none, .iface 125 (.int .i64 (planChk m.pl))]) ∧ Below w'.heap.size w' w'') := fun w' hb => by
    have := kern_new_bad w' m (hf.new hb) (hm.new hb) he
    rw [errV_pos he] at this; exact this
  generalize planChk m.pl = E at HNEW ⊢
  generalize m.ros.length = nn at HNEW ⊢
  generalize m.spans.length = ns at HNEW ⊢
  generalize m.wires.length = nw at HNEW ⊢
  obtain ⟨A0, c0, _, tk, sA0, sc0, _, wA0, wc0, _⟩ := m
  simp only [] at HNEW ⊢
  clear hf hm he
  go_enter Tryd.func85, Tryd.ntmps85
  go_wp2_with (go_at_call 28; refine (HNEW.out _ ((Below.refl _ _).alloc (Nat.le_refl _) _)).mono ?_; rintro e w1 ⟨rfl, hb1⟩)
  go_ret2
  exact ⟨rfl, ((Below.refl _ _).alloc (Nat.le_refl _) _).trans (hb1.mono (by simp))⟩
theorem sight_bad_args (w : World) (m : PM) (n r : Int) (hf : Forms w) (hm : PlanAt w m) (he : planChk m.pl = 0) (hb : r < 0 ∨ m.ros.length ≤ r ∨ n < 0 ∨ 2000 < n) :
    Calls Tryd.prog 85 #[.agg #[.slice m.A m.ros.length m.c, .int .i64 m.ticks, .slice m.sA m.spans.length m.sc, .slice m.wA m.wires.length m.wc], .int .i64 n, .int .i64 r] w
      fun e w' => e = .returned (.tuple #[.slice none 0 0, .iface 125 (.int .i64 1)]) ∧ Below w.heap.size w w' := by
  have HNEW : Hid (∀ w', Below w.heap.size w w' → Calls Tryd.prog 28 #[.agg #[.slice m.A m.ros.length m.c, .int .i64 m.ticks, .slice m.sA m.spans.length m.sc, .slice m.wA m.wires.length m.wc]] w' fun e w'' => (∃ kb : Nat, e = .returned (.tuple #[.pointer (some ⟨kb, 0, none⟩), .nilIface])) ∧ Below w'.heap.size w' w'') := fun w' hb =>
    (kern_new_ok w' m (hf.new hb) (hm.new hb) he).mono fun e w'' ⟨kb, M, h1, _, _, _, h5⟩ => ⟨⟨kb, h1⟩, h5⟩
  have hnn : m.ros.length ≤ 5 := by have := (planChk_ok he).most5; simpa [PM.pl] using this
  generalize m.ros.length = nn at HNEW hb hnn ⊢
  generalize m.spans.length = ns at HNEW ⊢
  generalize m.wires.length = nw at HNEW ⊢
  obtain ⟨A0, c0, _, tk, sA0, sc0, _, wA0, wc0, _⟩ := m
  simp only [] at HNEW ⊢
  clear hf hm he
  by_cases q1 : r < 0
  · clear hb
    go_enter Tryd.func85, Tryd.ntmps85
    go_wp2_with (go_at_call 28; refine (HNEW.out _ ((Below.refl _ _).alloc (Nat.le_refl _) _)).mono ?_; rintro e w1 ⟨⟨kb, rfl⟩, hb1⟩; have p0 := (hb1.cell (p := ⟨w.heap.size, 0, none⟩) (by simp)).trans (blk_cell (heap_alloc_new w _) 0); simp at p0; have hltp := cell_lt p0; have HB1 := hid hb1; clear hb1)
    go_ret2
    exact ⟨rfl, ((Below.refl _ _).alloc (Nat.le_refl _) _).trans (HB1.out.mono (by simp))⟩
  by_cases q2 : (nn : Int) ≤ r
  · have q1' : 0 ≤ r := by omega
    clear hb q1
    go_enter Tryd.func85, Tryd.ntmps85
    go_wp2_with (go_at_call 28; refine (HNEW.out _ ((Below.refl _ _).alloc (Nat.le_refl _) _)).mono ?_; rintro e w1 ⟨⟨kb, rfl⟩, hb1⟩; have p0 := (hb1.cell (p := ⟨w.heap.size, 0, none⟩) (by simp)).trans (blk_cell (heap_alloc_new w _) 0); simp at p0; have hltp := cell_lt p0; have HB1 := hid hb1; clear hb1)
    go_ret2
    exact ⟨rfl, ((Below.refl _ _).alloc (Nat.le_refl _) _).trans (HB1.out.mono (by simp))⟩
  have q1' : 0 ≤ r := by omega
  have q2' : r < nn := by omega
  by_cases q3 : n < 0
  · clear hb q1 q2
    go_enter Tryd.func85, Tryd.ntmps85
    go_wp2_with (go_at_call 28; refine (HNEW.out _ ((Below.refl _ _).alloc (Nat.le_refl _) _)).mono ?_; rintro e w1 ⟨⟨kb, rfl⟩, hb1⟩; have p0 := (hb1.cell (p := ⟨w.heap.size, 0, none⟩) (by simp)).trans (blk_cell (heap_alloc_new w _) 0); simp at p0; have hltp := cell_lt p0; have HB1 := hid hb1; clear hb1)
    go_ret2
    exact ⟨rfl, ((Below.refl _ _).alloc (Nat.le_refl _) _).trans (HB1.out.mono (by simp))⟩
  · have q3' : 0 ≤ n := by omega
    have q4 : 2000 < n := by omega
    clear hb q1 q2 q3
    go_enter Tryd.func85, Tryd.ntmps85
    go_wp2_with (go_at_call 28; refine (HNEW.out _ ((Below.refl _ _).alloc (Nat.le_refl _) _)).mono ?_; rintro e w1 ⟨⟨kb, rfl⟩, hb1⟩; have p0 := (hb1.cell (p := ⟨w.heap.size, 0, none⟩) (by simp)).trans (blk_cell (heap_alloc_new w _) 0); simp at p0; have hltp := cell_lt p0; have HB1 := hid hb1; clear hb1)
    go_ret2
    exact ⟨rfl, ((Below.refl _ _).alloc (Nat.le_refl _) _).trans (HB1.out.mono (by simp))⟩

/-- What a good run leaves, its first state laid open. -/
def RunZero (w : World) (n : Nat) (e : Ending) (w' : World) : Prop :=
  ∃ b off c, e = .returned (.tuple #[.slice (some ⟨b, off, none⟩) (n + 1) c, .nilIface]) ∧ StIn w' b off St.zero ∧ b < w'.heap.size ∧ n + 1 ≤ c ∧ c ≤ maxLen ∧ Below w.heap.size w w'
theorem SightRun.zero {w w' : World} {p : Pl} {r n : Nat} {e : Ending} (hr : r < p.code.length) (h : SightRun w p r n e w') : RunZero w n e w' := by
  obtain ⟨A, c, h1, h2, _, h4⟩ := h
  have hg : (statesTo p r (n + 1))[0]? = some St.zero := by rw [statesTo_get p r (n + 1) 0 (by omega), stAtT_zero hr]
  obtain ⟨b, off, cur, rfl, hh, hsz, hi, hnc, hcm, hx⟩ := h2.elem St.cells St.len (by decide) hg
  have hc : ∀ j u, St.zero.cells[j]? = some u → w'.cell? ⟨b, off + j, none⟩ = some u := fun j u hu => by
    have := hx j u hu
    rw [Nat.zero_mul, Nat.zero_add] at this
    exact (blk_cell hh _).trans this
  exact ⟨b, off, c, h1, ⟨hc 0 _ rfl, hc 1 _ rfl, hc 2 _ rfl, hc 3 _ rfl, hc 4 _ rfl, hc 5 _ rfl, hc 6 _ rfl, hc 7 _ rfl⟩, blk_lt hh, hnc, hcm, h4⟩
def RunOne (w : World) (e : Ending) (w' : World) : Prop :=
  ∃ b off c, e = .returned (.tuple #[.slice (some ⟨b, off, none⟩) 3 c, .nilIface]) ∧ w'.cell? ⟨b, off + 16 + 1, none⟩ = some (.int .i64 1) ∧ 3 ≤ c ∧ c ≤ maxLen ∧ Below w.heap.size w w'
theorem count_run {w : World} {B c1 c2 : Nat} {A1 A2 : Option Addr} {rows : List Ro} (hf : Forms w) (h : Counted w B 1 A1 c1 rows A2 c2) :
    Calls Tryd.prog 85 #[.agg #[.slice A1 1 c1, .int .i64 1, .slice A2 1 c2, .slice none 0 0], .int .i64 2, .int .i64 0] w (RunOne w) := by
  have hm := h.many
  have hpl := counted_pl h
  have hk := countPl_ok 1 (by decide) (by decide)
  have hrun := sight_run w (countPM 1 A1 c1 rows A2 c2) 2 0 hf (counted_plan h (by decide)) (by rw [hpl]; exact hk) (by decide) (by show 0 < rows.length; omega)
  rw [hpl] at hrun
  simp only [countPM, hm] at hrun
  refine Calls.mono hrun ?_
  rintro e w' ⟨A, c, h1, h2, _, h4⟩
  have hg : (statesTo (countPl 1) 0 3)[2]? = some (stAtT (countPl 1) 0 2) := statesTo_get _ _ 3 2 (by decide)
  have hs : stAtT (countPl 1) 0 2 = ⟨0, 1, 1, 0, 0, 0, 0, false⟩ := by
    have e1 := count_new 1
    have e2 := count_tick 1 0 (by decide) (by decide) (by decide)
    have e3 := count_tick 1 1 (by decide) (by decide) (by decide)
    have hk2 : runK (countPl 1) 2 = countK 1 2 := by
      show (tick (countPl 1) (tick (countPl 1) (kNew (countPl 1))).2).2 = _
      rw [e1, e2, e3]
    unfold stAtT
    rw [hk2]
    rfl
  rw [hs] at hg
  obtain ⟨b, off, cur, rfl, hh, hsz, hi, hnc, hcm, hx⟩ := h2.elem St.cells St.len (by decide) hg
  exact ⟨b, off, c, h1, (blk_cell hh _).trans (hx 1 _ rfl), hnc, hcm, h4⟩

end Go.Proofs.YtongkiccglaniaaDoor
