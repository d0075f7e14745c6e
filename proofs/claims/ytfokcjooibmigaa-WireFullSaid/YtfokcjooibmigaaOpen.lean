/- What an argument is, by its type's shape: slices of structs of integers, and such structs by value. -/
import Derived.Test.YtfokcjooibmigaaPure
import Derived.Test.YtfokcjooibmigaaRows
import Derived.ProofKit
import Derived.Deep.Slices
import Derived.Deep.Fields
import Derived.Lib.SmallJoins
namespace Go.Proofs.Ytfokcjooibmigaa
open Go.RowKit Go.ChangeShapes Go.WideShapes Go.ChangeAt Go.Deep Go.Joins

theorem int_lo {a : Int} (h : (Lit.int .i64 a).wf = true) : -9223372036854775808 ≤ a := by
  have h1 : IntKind.i64.min = -9223372036854775808 := by decide
  simp only [Lit.wf, Bool.and_eq_true, decide_eq_true_eq, h1] at h; exact h.1
theorem int_hi {a : Int} (h : (Lit.int .i64 a).wf = true) : a ≤ 9223372036854775807 := by
  have h1 : IntKind.i64.max = 9223372036854775807 := by decide
  simp only [Lit.wf, Bool.and_eq_true, decide_eq_true_eq, h1] at h; exact h.2
end Go.Proofs.Ytfokcjooibmigaa
