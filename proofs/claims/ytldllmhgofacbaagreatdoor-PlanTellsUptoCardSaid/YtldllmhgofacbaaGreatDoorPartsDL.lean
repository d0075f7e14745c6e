/- The table plan.parts as a row lists it: a struct a part: its word, and how many numbers its line has. Conditions: none. -/
import Derived.Test.YtldllmhgofacbaaGreatDoorFormU
import Derived.Test.YtldllmhgofacbaaGreatDoorPParseUL
namespace Go.Proofs.YtldllmhgofacbaaGreatDoor
open Go.ChangeShapes Go.WideShapes Go.RowKit
set_option maxRecDepth 100000

theorem Tryz.qg : Tryz.prog.globalNamed "framekeep/plan.parts" = some 1 := by kernel_rfl
theorem Tryz.qt : (Tryz.prog.globals[1]?).map (·.type) = some 204 := by kernel_rfl
def partD (i : Nat) : DataW Unit := .agg [.lit (.string (partWord i)), .lit (.int .i64 (partMany i))]
theorem parts_d : (Rows.laid_framekeep_plan_parts : DataW Unit) = .agg ((List.range 4).map partD) := by rfl
theorem part_cells {w : World} {base : Nat} {sp : Nat → Bool} {held : Bool} {fuel : Nat} {cs : List Value} {x : DataW Unit × List MemPlace} (h : DataW.trod (fun _ => ()) Tryz.prog w base sp held fuel 203 cs = some x) {i : Nat} (hx : x.1 = partD i) :
    ∃ s : ByteArray, cs = [.string s, .int .i64 (partMany i)] ∧ s.data.toList = partWord i := by
  obtain ⟨xs, n, _, rfl, hl, hxl, hg⟩ := DataW.trod_struct Tryz.underlying203 h
  have hl3 : cs.length = 2 := hl.trans (by kernel_rfl)
  simp only [partD, DataW.agg.injEq] at hx
  match xs, hxl with
  | [y0, y1], _ =>
    match cs, hl3 with
    | [a0, a1], _ =>
      have c0 : Tryz.prog.cellsOf 9 = 1 := by kernel_rfl
      have c1 : Tryz.prog.cellsOf 3 = 1 := by kernel_rfl
      have e0 : DataW.trod (fun _ => ()) Tryz.prog w base sp held n 9 (([a0, a1].drop 0).take (Tryz.prog.cellsOf 9)) = some y0 := hg 0 _ rfl
      have e1 : DataW.trod (fun _ => ()) Tryz.prog w base sp held n 3 (([a0, a1].drop 1).take (Tryz.prog.cellsOf 3)) = some y1 := hg 1 _ rfl
      rw [c0] at e0
      rw [c1] at e1
      obtain ⟨s, s1, s2, _⟩ := DataW.trod_string Tryz.underlying9 e0
      obtain ⟨b1, b2, b3, _⟩ := DataW.trod_int Tryz.underlying3 e1
      subst s2 b3
      simp only [List.map_cons, List.map_nil, List.cons.injEq, DataW.lit.injEq, Lit.string.injEq, Lit.int.injEq, and_true, true_and] at hx
      obtain ⟨h0, h1⟩ := hx
      have q1 : a0 = .string s := List.head_eq_of_cons_eq s1
      have q2 : a1 = .int .i64 b1 := List.head_eq_of_cons_eq b2
      exact ⟨s, by rw [q1, q2, h1], h0⟩
theorem parts_of_reads {W : World} (h : Reads W "framekeep/plan.parts" Rows.laid_framekeep_plan_parts) : Parts W := by
  obtain ⟨g, t, cs, fuel, p, hg, ht, hvar, hd⟩ := h
  obtain rfl := Option.some.inj (Tryz.qg.symm.trans hg)
  obtain rfl := Option.some.inj (Tryz.qt.symm.trans ht)
  obtain ⟨xs, m, _, hx, hl, hxl, hgt⟩ := DataW.trod_array Tryz.underlying204 hd
  rw [parts_d] at hx
  simp only [Prod.mk.injEq, DataW.agg.injEq] at hx
  have hc2 : Tryz.prog.cellsOf 203 = 2 := by kernel_rfl
  have hall : ∀ i, i < 4 → ∃ s : ByteArray, (cs.toList.drop (i * 2)).take 2 = [.string s, .int .i64 (partMany i)] ∧ s.data.toList = partWord i := fun i hi => by
    have h1 := hgt i hi
    rw [hc2] at h1
    have hlt : i < xs.length := by omega
    rw [List.getElem?_eq_getElem hlt] at h1
    refine part_cells h1 ?_
    have h2 : ((List.range 4).map partD)[i]? = (xs.map (·.1))[i]? := by rw [hx.1]
    rw [List.getElem?_map, List.getElem?_map, List.getElem?_eq_getElem hlt, List.getElem?_range hi] at h2
    simpa using h2.symm
  have hcell := fun o => World.var?_cell Tryz.qg hvar o
  have hat : ∀ i j, i < 4 → j < 2 → W.cell? ⟨1, i * 2 + j, none⟩ = ((cs.toList.drop (i * 2)).take 2)[j]? := fun i j hi hj => by
    rw [hcell, List.getElem?_take, if_pos hj, List.getElem?_drop, Array.getElem?_toList]
  have hw : ∀ i, i < 4 → W.cell? ⟨1, i * 2, none⟩ = some (.string ⟨(partWord i).toArray⟩) := fun i hi => by
    obtain ⟨s, e, es⟩ := hall i hi
    have h0 := hat i 0 hi (by omega)
    rw [Nat.add_zero, e] at h0
    rw [h0, ← es, Lib.mk_data]; rfl
  have hm : ∀ i, i < 4 → W.cell? ⟨1, i * 2 + 1, none⟩ = some (.int .i64 (partMany i)) := fun i hi => by
    obtain ⟨s, e, _⟩ := hall i hi
    rw [hat i 1 hi (by omega), e]; rfl
  exact ⟨cell_lt (hw 0 (by omega)), hw 0 (by omega), hm 0 (by omega), hw 1 (by omega), hm 1 (by omega), hw 2 (by omega), hm 2 (by omega), hw 3 (by omega), hm 3 (by omega)⟩
end Go.Proofs.YtldllmhgofacbaaGreatDoor
