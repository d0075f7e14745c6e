/- The table code.forms as a row lists it: a struct a form: its name, and which of A and B are in its line. Conditions: none. -/
import Derived.Test.YteneedblgaialaaDoorCodeW
import Derived.Test.YteneedblgaialaaDoorRows
import Derived.Lib.LaidTab
import Derived.ChangeArms
import Derived.OpenShut
import Derived.RowKit
namespace Go.Proofs.YteneedblgaialaaDoor
open Go.ChangeShapes Go.WideShapes Go.RowKit
set_option maxRecDepth 100000

theorem Tryd.fg : Tryd.prog.globalNamed "framekeep/code.forms" = some 0 := by kernel_rfl
theorem Tryd.ft : (Tryd.prog.globals[0]?).map (·.type) = some 57 := by kernel_rfl

def theNames : List (List UInt8) := [[], [115, 101, 116], [99, 111, 112, 121], [97, 100, 100], [115, 117, 98], [109, 117, 108], [122, 101, 114, 111], [106, 117, 109, 112], [115, 101, 110, 100], [116, 97, 107, 101], [114, 101, 115, 116], [102, 97, 105, 108]]
def formD (i : Nat) : DataW Unit := .agg [.lit (.string (theNames.getD i [])), .lit (.bool (formA i)), .lit (.bool (formB i))]
theorem forms_d : (Rows.laid_framekeep_code_forms : DataW Unit) = .agg ((List.range 12).map formD) := by rfl

theorem form_cells {w : World} {base : Nat} {sp : Nat → Bool} {held : Bool} {fuel : Nat} {cs : List Value} {x : DataW Unit × List MemPlace} (h : DataW.trod (fun _ => ()) Tryd.prog w base sp held fuel 56 cs = some x) {i : Nat} (hx : x.1 = formD i) :
    ∃ s : ByteArray, cs = [.string s, .bool (formA i), .bool (formB i)] ∧ s.data.toList = theNames.getD i [] := by
  obtain ⟨xs, n, _, rfl, hl, hxl, hg⟩ := DataW.trod_struct Tryd.underlying56 h
  have hl3 : cs.length = 3 := hl.trans (by kernel_rfl)
  simp only [formD, DataW.agg.injEq] at hx
  match xs, hxl with
  | [y0, y1, y2], _ =>
    match cs, hl3 with
    | [a0, a1, a2], _ =>
      have c0 : Tryd.prog.cellsOf 9 = 1 := by kernel_rfl
      have c1 : Tryd.prog.cellsOf 4 = 1 := by kernel_rfl
      have e0 : DataW.trod (fun _ => ()) Tryd.prog w base sp held n 9 (([a0, a1, a2].drop 0).take (Tryd.prog.cellsOf 9)) = some y0 := hg 0 _ rfl
      have e1 : DataW.trod (fun _ => ()) Tryd.prog w base sp held n 4 (([a0, a1, a2].drop 1).take (Tryd.prog.cellsOf 4)) = some y1 := hg 1 _ rfl
      have e2 : DataW.trod (fun _ => ()) Tryd.prog w base sp held n 4 (([a0, a1, a2].drop 2).take (Tryd.prog.cellsOf 4)) = some y2 := hg 2 _ rfl
      rw [c0] at e0
      rw [c1] at e1 e2
      obtain ⟨s, s1, s2, _⟩ := DataW.trod_string Tryd.underlying9 e0
      obtain ⟨b1, b2, b3⟩ := DataW.trod_bool Tryd.underlying4 e1
      obtain ⟨d1, d2, d3⟩ := DataW.trod_bool Tryd.underlying4 e2
      subst s2 b3 d3
      simp only [List.map_cons, List.map_nil, List.cons.injEq, DataW.lit.injEq, Lit.string.injEq, Lit.bool.injEq, and_true] at hx
      obtain ⟨h0, h1, h2⟩ := hx
      have q1 : a0 = .string s := List.head_eq_of_cons_eq s1
      have q2 : a1 = .bool b1 := List.head_eq_of_cons_eq b2
      have q3 : a2 = .bool d1 := List.head_eq_of_cons_eq d2
      exact ⟨s, by rw [q1, q2, q3, h1, h2], h0⟩
end Go.Proofs.YteneedblgaialaaDoor
