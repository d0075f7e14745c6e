/- A plan of one room as a program lays it: one block for its code, one for the rooms, one for its spans. -/
import Derived.Test.YtnighanlonkjbaaDoorPlanMem
namespace Go.Proofs.YtnighanlonkjbaaDoor
open Go.RowKit
set_option maxRecDepth 100000

theorem sl_blk {w : World} {b t : Nat} {cs : Array Value} (h : w.heap[b]? = some (.cells cs t (0, 0))) (sz n : Nat) (xs : List Value) (hx : cs.toList = xs) (hn : xs.length = n * sz) : Sl w (some ⟨b, 0, none⟩) sz n xs := by
  subst hx
  refine ⟨hn, fun _ => ⟨b, 0, rfl, blk_lt h, fun j u hu => ?_⟩⟩
  rw [Nat.zero_add, blk_cell h]
  simpa using hu
theorem lit_slW (b n : Nat) (hn : n ≤ 100) : SlW (some ⟨b, 0, none⟩) n n := ⟨Nat.le_refl _, by unfold maxLen; omega, fun h => by cases h⟩
theorem fits_lit {a : Int} (h : -1000 ≤ a ∧ a ≤ 1000) : Fits a := ⟨by omega, by omega⟩
/-- The plan as it lies: code at ob, rooms at rb, spans at sb. -/
def onePM (ob rb sb : Nat) (ops : List Op) (T : Int) (spans : List Span) : PM :=
  ⟨some ⟨rb, 0, none⟩, 1, [⟨some ⟨ob, 0, none⟩, ops.length, ops⟩], T, some ⟨sb, 0, none⟩, spans.length, spans, none, 0, []⟩
theorem one_plan {w : World} {ob rb sb : Nat} {ops : List Op} {T : Int} {spans : List Span} {t1 t2 t3 : Nat}
    (h1 : w.heap[ob]? = some (.cells (ops.flatMap Op.cells).toArray t1 (0, 0))) (h2 : w.heap[rb]? = some (.cells #[.slice (some ⟨ob, 0, none⟩) ops.length ops.length] t2 (0, 0)))
    (h3 : w.heap[sb]? = some (.cells (spans.flatMap Span.cells).toArray t3 (0, 0)))
    (hl : ops.length ≤ 20) (hs : spans.length ≤ 12) (hT : -1000 ≤ T ∧ T ≤ 1000) (ho : ∀ o ∈ ops, o.Ok) (hso : ∀ s ∈ spans, s.Ok) : PlanAt w (onePM ob rb sb ops T spans) := by
  refine ⟨sl_blk h2 1 1 _ rfl rfl, lit_slW _ 1 (by omega), fun r hr => ?_, fits_lit hT, sl_blk h3 3 spans.length (spans.flatMap Span.cells) (by simp) (flatMap_len Span.cells 3 Span.len _), lit_slW _ spans.length (by omega), hso, Sl.nil _ _ _, ⟨Nat.le_refl _, Nat.zero_le _, fun _ => ⟨rfl, rfl⟩⟩, fun y hy => by simp [onePM] at hy⟩
  simp [onePM] at hr
  subst hr
  exact ⟨sl_blk h1 3 ops.length (ops.flatMap Op.cells) (by simp) (flatMap_len Op.cells 3 Op.len _), lit_slW _ ops.length (by omega), ho⟩
/-- Without spans. -/
def onePM0 (ob rb : Nat) (ops : List Op) (T : Int) : PM := ⟨some ⟨rb, 0, none⟩, 1, [⟨some ⟨ob, 0, none⟩, ops.length, ops⟩], T, none, 0, [], none, 0, []⟩
theorem one_plan0 {w : World} {ob rb : Nat} {ops : List Op} {T : Int} {t1 t2 : Nat}
    (h1 : w.heap[ob]? = some (.cells (ops.flatMap Op.cells).toArray t1 (0, 0))) (h2 : w.heap[rb]? = some (.cells #[.slice (some ⟨ob, 0, none⟩) ops.length ops.length] t2 (0, 0)))
    (hl : ops.length ≤ 20) (hT : -1000 ≤ T ∧ T ≤ 1000) (ho : ∀ o ∈ ops, o.Ok) : PlanAt w (onePM0 ob rb ops T) := by
  refine ⟨sl_blk h2 1 1 _ rfl rfl, lit_slW _ 1 (by omega), fun r hr => ?_, fits_lit hT, Sl.nil _ _ _, ⟨Nat.le_refl _, Nat.zero_le _, fun _ => ⟨rfl, rfl⟩⟩, fun y hy => by simp [onePM0] at hy, Sl.nil _ _ _, ⟨Nat.le_refl _, Nat.zero_le _, fun _ => ⟨rfl, rfl⟩⟩, fun y hy => by simp [onePM0] at hy⟩
  simp [onePM0] at hr
  subst hr
  exact ⟨sl_blk h1 3 ops.length (ops.flatMap Op.cells) (by simp) (flatMap_len Op.cells 3 Op.len _), lit_slW _ ops.length (by omega), ho⟩
end Go.Proofs.YtnighanlonkjbaaDoor
