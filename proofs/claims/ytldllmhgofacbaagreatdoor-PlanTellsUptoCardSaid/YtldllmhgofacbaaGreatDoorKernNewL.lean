/- Package kernel: the contract of New, for every plan. -/
import Derived.Test.YtldllmhgofacbaaGreatDoorKernUL
import Derived.Test.YtldllmhgofacbaaGreatDoorOwnUL
import Derived.Laws.MakeOwn
namespace Go.Proofs.YtldllmhgofacbaaGreatDoor
open Go.RowKit
set_option maxRecDepth 100000
attribute [local go_sem ↓] Go.wp_at_zero Go.wp_at_succ

theorem planSmall {m : PM} (h : planChk m.pl = 0) : PMSmall m := by
  have h := planChk_ok h
  refine ⟨by have := h.most5; simpa [PM.pl] using this, fun r hr => ?_, ?_, ?_⟩
  · have := h.codes r.ops (by simp only [PM.pl]; exact List.mem_map_of_mem hr)
    exact (codeChk_ok this).2.1
  · exact (frameChk_ticks h.frame).2.2
  · exact (flowChk_ok h.flow).1

theorem made_states {n : Nat} (h : n ≤ 5) : madeCells (Value.agg #[.int .i64 0, .int .i64 0, .int .i64 0, .int .i64 0, .int .i64 0, .int .i64 0, .int .i64 0, .bool false]).cells (n * 8) = ((List.replicate n St.zero).flatMap St.cells).toArray := by
  rcases (show n = 0 ∨ n = 1 ∨ n = 2 ∨ n = 3 ∨ n = 4 ∨ n = 5 by omega) with rfl | rfl | rfl | rfl | rfl | rfl <;> kernel_rfl
theorem set_rep (n i : Nat) (z : St) : (List.replicate n z).set i z = List.replicate n z := by
  apply List.ext_getElem?
  intro j
  rw [List.getElem?_set, List.length_replicate, List.getElem?_replicate]
  by_cases h : i = j
  · subst h; rw [if_pos rfl]
  · rw [if_neg h]
end Go.Proofs.YtldllmhgofacbaaGreatDoor
