/- What the condition of a tied row gives a walk, where the row lists the table code.forms (alone, or beside errors.errorType), and worlds that meet it. -/
import Derived.Test.YtongkiccglaniaaDoorCodeW
import Derived.Test.YtongkiccglaniaaDoorOpen2
import Derived.Test.YtongkiccglaniaaDoorDoorU
namespace Go.Proofs.YtongkiccglaniaaDoor
open Go.ChangeShapes Go.WideShapes Go.RowKit
set_option maxRecDepth 100000

theorem Tryd.fg : Tryd.prog.globalNamed "framekeep/code.forms" = some 1 := by kernel_rfl
theorem Tryd.ft : (Tryd.prog.globals[1]?).map (·.type) = some 245 := by kernel_rfl

def theLaidF : List (String × DataW Unit) := [("framekeep/code.forms", Rows.laid_framekeep_code_forms)]
def theLaidEF : List (String × DataW Unit) := [("errors.errorType", Rows.laid_errors_errorType), ("framekeep/code.forms", Rows.laid_framekeep_code_forms)]

def theNames : List (List UInt8) := [[], [115, 101, 116], [99, 111, 112, 121], [97, 100, 100], [115, 117, 98], [109, 117, 108], [122, 101, 114, 111], [106, 117, 109, 112], [115, 101, 110, 100], [116, 97, 107, 101], [114, 101, 115, 116], [102, 97, 105, 108]]
def formD (i : Nat) : DataW Unit := .agg [.lit (.string (theNames.getD i [])), .lit (.bool (formA i)), .lit (.bool (formB i))]
theorem forms_d : (Rows.laid_framekeep_code_forms : DataW Unit) = .agg ((List.range 12).map formD) := by rfl

theorem form_cells {w : World} {base : Nat} {sp : Nat → Bool} {held : Bool} {fuel : Nat} {cs : List Value} {x : DataW Unit × List MemPlace} (h : DataW.trod (fun _ => ()) Tryd.prog w base sp held fuel 244 cs = some x) {i : Nat} (hx : x.1 = formD i) :
    ∃ s : ByteArray, cs = [.string s, .bool (formA i), .bool (formB i)] ∧ s.data.toList = theNames.getD i [] := by
  obtain ⟨xs, n, _, rfl, hl, hxl, hg⟩ := DataW.trod_struct Tryd.underlying244 h
  have hl3 : cs.length = 3 := hl.trans (by kernel_rfl)
  simp only [formD, DataW.agg.injEq] at hx
  match xs, hxl with
  | [y0, y1, y2], _ =>
    match cs, hl3 with
    | [a0, a1, a2], _ =>
      have c0 : Tryd.prog.cellsOf 9 = 1 := by kernel_rfl
      have c1 : Tryd.prog.cellsOf 4 = 1 := by kernel_rfl
      have e0 : DataW.trod (fun _ => ()) Tryd.prog w base sp held n 9 (([a0, a1, a2].drop 0).take (Tryd.prog.cellsOf 9)) = some y0 := hg 0 _ rfl
      have e1 : DataW.trod (fun _ => ()) Tryd.prog w base sp held n 4 (([a0, a1, a2].drop 1).take (Tryd.prog.cellsOf 4)) = some y1 := hg 1 _ rfl
      have e2 : DataW.trod (fun _ => ()) Tryd.prog w base sp held n 4 (([a0, a1, a2].drop 2).take (Tryd.prog.cellsOf 4)) = some y2 := hg 2 _ rfl
      rw [c0] at e0
      rw [c1] at e1 e2
      obtain ⟨s, s1, s2, _⟩ := DataW.trod_string Tryd.underlying9 e0
      obtain ⟨b1, b2, b3⟩ := DataW.trod_bool Tryd.underlying4 e1
      obtain ⟨d1, d2, d3⟩ := DataW.trod_bool Tryd.underlying4 e2
      subst s2 b3 d3
      simp only [List.map_cons, List.map_nil, List.cons.injEq, DataW.lit.injEq, Lit.string.injEq, Lit.bool.injEq, and_true] at hx
      obtain ⟨h0, h1, h2⟩ := hx
      have q1 : a0 = .string s := List.head_eq_of_cons_eq s1
      have q2 : a1 = .bool b1 := List.head_eq_of_cons_eq b2
      have q3 : a2 = .bool d1 := List.head_eq_of_cons_eq d2
      exact ⟨s, by rw [q1, q2, q3, h1, h2], h0⟩

theorem forms_of_laid {W : World} (h : laidMet Tryd.prog theLaidF W) : Forms W := by
  obtain ⟨ps, ⟨g, t, cs, fuel, p, q, hg, ht, hvar, hd, _, _⟩, _⟩ := h
  obtain rfl := Option.some.inj (Tryd.fg.symm.trans hg)
  obtain rfl := Option.some.inj (Tryd.ft.symm.trans ht)
  obtain ⟨xs, m, _, hx, hl, hxl, hgt⟩ := DataW.trod_array Tryd.underlying245 hd
  rw [forms_d] at hx
  simp only [Prod.mk.injEq, DataW.agg.injEq] at hx
  have hc3 : Tryd.prog.cellsOf 244 = 3 := by kernel_rfl
  have hall : ∀ i, i < 12 → ∃ s : ByteArray, (cs.toList.drop (i * 3)).take 3 = [.string s, .bool (formA i), .bool (formB i)] ∧ s.data.toList = theNames.getD i [] := fun i hi => by
    have h1 := hgt i hi
    rw [hc3] at h1
    have hlt : i < xs.length := by omega
    rw [List.getElem?_eq_getElem hlt] at h1
    refine form_cells h1 ?_
    have h2 : ((List.range 12).map formD)[i]? = (xs.map (·.1))[i]? := by rw [hx.1]
    rw [List.getElem?_map, List.getElem?_map, List.getElem?_eq_getElem hlt, List.getElem?_range hi] at h2
    simpa using h2.symm
  have hcell := fun o => World.var?_cell Tryd.fg hvar o
  have hat : ∀ i j, i < 12 → j < 3 → W.cell? ⟨1, i * 3 + j, none⟩ = ((cs.toList.drop (i * 3)).take 3)[j]? := fun i j hi hj => by
    rw [hcell, List.getElem?_take, if_pos hj, List.getElem?_drop, Array.getElem?_toList]
  have ha : ∀ i, i < 12 → W.cell? ⟨1, i * 3 + 1, none⟩ = some (.bool (formA i)) := fun i hi => by
    obtain ⟨s, e, _⟩ := hall i hi
    rw [hat i 1 hi (by omega), e]; rfl
  refine ⟨cell_lt (ha 0 (by omega)), ha, fun i hi => ?_⟩
  obtain ⟨s, e, _⟩ := hall i hi
  rw [hat i 2 hi (by omega), e]; rfl

theorem forms_of_F {W : World} (h : laidMetH Tryd.prog theLaidF W) : Forms W := forms_of_laid h
theorem forms_of_EF {W : World} (h : laidMetH Tryd.prog theLaidEF W) : Forms W := by
  have h' : laidMet Tryd.prog theLaidF W ∧ handlesMet Tryd.prog theLaid W := h
  exact forms_of_laid h'.1
theorem handle_of_EF {W : World} (h : laidMetH Tryd.prog theLaidEF W) : Handle W := by
  have h' : laidMet Tryd.prog theLaidF W ∧ handlesMet Tryd.prog theLaid W := h
  refine handle_of_laid ?_
  exact ⟨laidMet_nil _ _, h'.2⟩

/-- Worlds that meet the conditions. -/
noncomputable def laidWorldF (os : Os) : World :=
  let w0 := World.holding Tryd.prog os ⟨#[], #[], []⟩
  { w0 with heap := w0.heap.modify 1 fun
      | .cells _ t frozen => .cells ((List.range 12).flatMap fun i => [Value.string ⟨(theNames.getD i []).toArray⟩, .bool (formA i), .bool (formB i)]).toArray t frozen
      | o => o }
noncomputable def laidWorldEF (os : Os) : World :=
  let w0 := laidWorldF os
  { w0 with heap := w0.heap.modify 0 fun
      | .cells _ t frozen => .cells #[.iface 229 (.agg #[.pointer (some ⟨2, 24, none⟩)])] t frozen
      | o => o }
theorem laidWorldF_met (os : Os) (args : Array Value) : laidMetH Tryd.prog theLaidF ((laidWorldF os).forCall (fun _ _ => 0) ⟨#[], args, []⟩).memory :=
  laidMetH_of_parts (laidMet_of_run' 8 (by kernel_rfl) (by kernel_rfl)) (by kernel_rfl)
theorem laidWorldEF_met (os : Os) (args : Array Value) : laidMetH Tryd.prog theLaidEF ((laidWorldEF os).forCall (fun _ _ => 0) ⟨#[], args, []⟩).memory :=
  laidMetH_of_parts (laidMet_of_run' 8 (by kernel_rfl) (by kernel_rfl)) (by kernel_rfl)
end Go.Proofs.YtongkiccglaniaaDoor
