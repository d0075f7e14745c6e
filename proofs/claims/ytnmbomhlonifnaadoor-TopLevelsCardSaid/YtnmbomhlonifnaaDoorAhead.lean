/- Package flow: the contract of Ahead, for every list of wires. -/
import Derived.Test.YtnmbomhlonifnaaDoorWaysU
namespace Go.Proofs.YtnmbomhlonifnaaDoor
open Go.RowKit
set_option maxRecDepth 100000

noncomputable def aheadTo (l : List Wire) (b k : Nat) : List Int := ((List.range k).filter fun a => reachB l a b).map fun (a : Nat) => (a : Int)
theorem aheadTo_succ (l : List Wire) (b k : Nat) : aheadTo l b (k + 1) = aheadTo l b k ++ (if reachB l k b then [(k : Int)] else []) := by
  unfold aheadTo
  rw [List.range_succ, List.filter_append, List.map_append]
  congr 1
  cases h : reachB l k b <;> simp [h]
theorem aheadTo_le (l : List Wire) (b k : Nat) : (aheadTo l b k).length ≤ k := by
  unfold aheadTo
  rw [List.length_map]
  exact Nat.le_trans (List.length_filter_le _ _) (by simp)
noncomputable def aheadOf (l : List Wire) (b : Int) : List Int × Int :=
  if (flowChk l).2 ≠ 0 then ([], (flowChk l).2) else if roomB b = false then ([], 1) else (aheadTo l b.toNat 5, 0)
def TellL (w : World) (r : List Int × Int) (e : Ending) (w' : World) : Prop :=
  ∃ A cap, e = .returned (.tuple #[.slice A r.1.length cap, errV r.2]) ∧ Row w' 3 1 A r.1.length cap (ints r.1) ∧ (∀ k, InA A k → w.heap.size ≤ k) ∧ Below w.heap.size w w'

theorem ways_row5 (l : List Wire) (a : Nat) (ha : a < 5) (w : World) : (Instr.index 119 (.agg (waysV l)) (.int .i64 a)).run Tryd.prog w = .ok (.agg #[.bool (reachB l a 0), .bool (reachB l a 1), .bool (reachB l a 2), .bool (reachB l a 3), .bool (reachB l a 4)]) w := by
  rcases (show a = 0 ∨ a = 1 ∨ a = 2 ∨ a = 3 ∨ a = 4 by omega) with rfl | rfl | rfl | rfl | rfl <;> kernel_rfl
theorem row5_get (l : List Wire) (a b : Nat) (hb : b < 5) : (#[Value.bool (reachB l a 0), .bool (reachB l a 1), .bool (reachB l a 2), .bool (reachB l a 3), .bool (reachB l a 4)] : Array Value)[b]? = some (.bool (reachB l a b)) := by
  rcases (show b = 0 ∨ b = 1 ∨ b = 2 ∨ b = 3 ∨ b = 4 by omega) with rfl | rfl | rfl | rfl | rfl <;> rfl
theorem row5_list (l : List Wire) (a b : Nat) (hb : b < 5) : ([Value.bool (reachB l a 0), .bool (reachB l a 1), .bool (reachB l a 2), .bool (reachB l a 3), .bool (reachB l a 4)] : List Value)[b]'hb = .bool (reachB l a b) := by
  rcases (show b = 0 ∨ b = 1 ∨ b = 2 ∨ b = 3 ∨ b = 4 by omega) with rfl | rfl | rfl | rfl | rfl <;> rfl

end Go.Proofs.YtnmbomhlonifnaaDoor
