/- framesame.Error of the very error. -/
import Derived.Test.YtnighanlonkjbaaDoorAs
namespace Go.Proofs.YtnighanlonkjbaaDoor
open Go.RowKit
set_option maxRecDepth 100000
theorem error_same (e : Int) (w : World) (hg : Handle w) : Calls Tryd.prog 20 #[errV e, .int .i64 e] w fun ev w' => ev = .returned (.bool true) ∧ Below w.heap.size w w' := by
  have h := error_any e e w hg
  rw [decide_eq_true rfl] at h
  exact h
end Go.Proofs.YtnighanlonkjbaaDoor
