/- Package snap: the contract of line, for every word and numbers. Conditions: the library's table of powers, which the row lists. -/
import Derived.Test.YtldllmhgofacbaaDoorDeskU
import Derived.Test.YtldllmhgofacbaaDoorFormU
import Derived.Deep.DeepCutAuto
namespace Go.Proofs.YtldllmhgofacbaaDoor
open Go.RowKit
set_option maxRecDepth 100000

/-- A line of a word and numbers. -/
def lineT (w : List UInt8) (l : List Int) : List UInt8 := w ++ l.flatMap numT ++ [10]
theorem lineT_10 {w : List UInt8} (h : (10 : UInt8) ∉ w) (l : List Int) : (lineT w l).count 10 = 1 := by
  unfold lineT
  rw [List.count_append, List.count_append, List.count_eq_zero.2 h, List.count_eq_zero.2 (nums_no10 l)]
  rfl
theorem numT_le {n : Int} (h0 : 0 ≤ n) (h1 : n ≤ 200000000) : (numT n).length ≤ 22 := by
  have := Lib.itoa_length_le n (by omega) (by omega)
  unfold numT; simp; omega
theorem nums_le : ∀ (l : List Int), (∀ n ∈ l, 0 ≤ n ∧ n ≤ 200000000) → (l.flatMap numT).length ≤ 22 * l.length
  | [], _ => by simp
  | n :: l, h => by
    have h1 := numT_le (h n (by simp)).1 (h n (by simp)).2
    have h2 := nums_le l (fun m hm => h m (by simp [hm]))
    rw [List.flatMap_cons, List.length_append, List.length_cons]; omega
theorem take_nums {l : List Int} {j : Nat} {n : Int} (h : l[j]? = some n) : (l.take (j + 1)).flatMap numT = (l.take j).flatMap numT ++ numT n := by
  obtain ⟨h1, h2⟩ := List.getElem?_eq_some_iff.1 h
  rw [List.take_succ_eq_append_getElem h1, List.flatMap_append, h2]; simp

end Go.Proofs.YtldllmhgofacbaaDoor
