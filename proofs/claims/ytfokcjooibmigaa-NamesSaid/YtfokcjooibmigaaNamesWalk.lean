/- The walk of framelaw1.Names: it returns true. -/
import Derived.Test.YtfokcjooibmigaaBase
import Derived.Test.YtfokcjooibmigaaRows
namespace Go.Proofs.Ytfokcjooibmigaa
open Go.RowKit

set_option maxHeartbeats 2000000 in
set_option maxRecDepth 100000 in
theorem names_walk (w : World) : Calls Try.prog 3 #[] w fun e w' => e = .returned (.bool true) ∧ Below w.heap.size w w' := by
  go_enter Try.func3, Try.ntmps3
  go_wp2
  go_loop [4] (fun v4 => ∃ k : Nat, k ≤ 9 ∧ v4 = .int .i64 k) (fun v4 => 9 - (intOf v4).toNat)
  case atStart => exact ⟨0, by omega, rfl⟩
  case round =>
    obtain ⟨k, hk, rfl⟩ := hrel
    rcases (show k = 0 ∨ k = 1 ∨ k = 2 ∨ k = 3 ∨ k = 4 ∨ k = 5 ∨ k = 6 ∨ k = 7 ∨ k = 8 ∨ k = 9 by omega) with rfl | rfl | rfl | rfl | rfl | rfl | rfl | rfl | rfl | rfl
    case inr.inr.inr.inr.inr.inr.inr.inr.inr =>
      go_wp2
      go_ret
      exact ⟨rfl, (Below.refl _ _).alloc (Nat.le_refl _) _⟩
    all_goals
      go_wp2
      go_round
      case rel => exact ⟨_, by decide, rfl⟩
      case measure => simp [intOf]
end Go.Proofs.Ytfokcjooibmigaa
