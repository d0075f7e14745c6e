/- What a tied row gives a walk where it lists code.forms and the table of the powers of ten among others: the names in the table of forms, and the powers. Conditions: none. -/
import Derived.Test.YteneedblgaialaaDoorFormD
import Derived.Test.YteneedblgaialaaDoorTextLaw
import Derived.Lay
import Derived.Lib.ItoaNum
namespace Go.Proofs.YteneedblgaialaaDoor
open Go.ChangeShapes Go.WideShapes Go.RowKit
set_option maxRecDepth 100000

/-- One listed variable's reading. -/
def Reads (w : World) (n : String) (d : DataW Unit) : Prop :=
  ∃ g t cs fuel p, Tryd.prog.globalNamed n = some g ∧ (Tryd.prog.globals[g]?).map (·.type) = some t ∧ w.var? Tryd.prog n = some cs ∧ DataW.trod (fun _ => ()) Tryd.prog w 0 (fun _ => true) false fuel t cs.toList = some (d, p)
theorem reads_of : ∀ {l : List (String × DataW Unit)} {w : World} {ps : List MemPlace}, DataW.LaidVars Tryd.prog w l ps → ∀ n d, (n, d) ∈ l → Reads w n d
  | [], _, _, _, _, _, hm => by cases hm
  | _ :: _, _, _, h, n, d, hm => by
    obtain ⟨g, t, cs, fuel, p, q, h1, h2, h3, h4, h5, _⟩ := h
    rcases List.mem_cons.1 hm with e | e
    · cases e
      exact ⟨g, t, cs, fuel, p, h1, h2, h3, h4⟩
    · exact reads_of h5 n d e
theorem reads_met {l : List (String × DataW Unit)} {w : World} (h : laidMet Tryd.prog l w) {n : String} {d : DataW Unit} (hm : (n, d) ∈ l) : Reads w n d := by
  obtain ⟨ps, hv, _⟩ := h
  exact reads_of hv n d hm

/-- The names of the table of forms. -/
def Names (w : World) : Prop := ∀ i, i < 12 → w.cell? ⟨0, i * 3, none⟩ = some (.string ⟨(nameOf i).toArray⟩)
theorem names_eq : ∀ i, i < 12 → theNames.getD i [] = nameOf i := by decide
theorem forms_of_reads {W : World} (h : Reads W "framekeep/code.forms" Rows.laid_framekeep_code_forms) : Forms W ∧ Names W := by
  obtain ⟨g, t, cs, fuel, p, hg, ht, hvar, hd⟩ := h
  obtain rfl := Option.some.inj (Tryd.fg.symm.trans hg)
  obtain rfl := Option.some.inj (Tryd.ft.symm.trans ht)
  obtain ⟨xs, m, _, hx, hl, hxl, hgt⟩ := DataW.trod_array Tryd.underlying57 hd
  rw [forms_d] at hx
  simp only [Prod.mk.injEq, DataW.agg.injEq] at hx
  have hc3 : Tryd.prog.cellsOf 56 = 3 := by kernel_rfl
  have hall : ∀ i, i < 12 → ∃ s : ByteArray, (cs.toList.drop (i * 3)).take 3 = [.string s, .bool (formA i), .bool (formB i)] ∧ s.data.toList = theNames.getD i [] := fun i hi => by
    have h1 := hgt i hi
    rw [hc3] at h1
    have hlt : i < xs.length := by omega
    rw [List.getElem?_eq_getElem hlt] at h1
    refine form_cells h1 ?_
    have h2 : ((List.range 12).map formD)[i]? = (xs.map (·.1))[i]? := by rw [hx.1]
    rw [List.getElem?_map, List.getElem?_map, List.getElem?_eq_getElem hlt, List.getElem?_range hi] at h2
    simpa using h2.symm
  have hcell := fun o => World.var?_cell Tryd.fg hvar o
  have hat : ∀ i j, i < 12 → j < 3 → W.cell? ⟨0, i * 3 + j, none⟩ = ((cs.toList.drop (i * 3)).take 3)[j]? := fun i j hi hj => by
    rw [hcell, List.getElem?_take, if_pos hj, List.getElem?_drop, Array.getElem?_toList]
  have ha : ∀ i, i < 12 → W.cell? ⟨0, i * 3 + 1, none⟩ = some (.bool (formA i)) := fun i hi => by
    obtain ⟨s, e, _⟩ := hall i hi
    rw [hat i 1 hi (by omega), e]; rfl
  refine ⟨⟨cell_lt (ha 0 (by omega)), ha, fun i hi => ?_⟩, fun i hi => ?_⟩
  · obtain ⟨s, e, _⟩ := hall i hi
    rw [hat i 2 hi (by omega), e]; rfl
  · obtain ⟨s, e, es⟩ := hall i hi
    have h0 := hat i 0 hi (by omega)
    rw [Nat.add_zero, e] at h0
    rw [h0, ← names_eq i hi, ← es, Lib.mk_data]; rfl
theorem Names.new {w w' : World} (h : Names w) (hf : Forms w) (hb : Below w.heap.size w w') : Names w' := fun i hi => (hb.cell (p := ⟨0, i * 3, none⟩) hf.lt).trans (h i hi)

/-- The table of the powers of ten lies as the library lays it. -/
def Pows (w : World) : Prop := Lib.TabIs Tryd.prog w "internal/strconv.uint64pow10" .u64 Lib.pow10Tab
theorem Tryd.pg : Tryd.prog.globalNamed "internal/strconv.uint64pow10" = some 2 := by kernel_rfl
theorem Tryd.pt : (Tryd.prog.globals[2]?).map (·.type) = some 126 := by kernel_rfl
theorem pows_of_reads {W : World} (h : Reads W "internal/strconv.uint64pow10" Rows.laid_internal_strconv_uint64pow10) : Pows W := by
  obtain ⟨g, t, cs, fuel, p, hg, ht, hvar, hd⟩ := h
  obtain rfl := Option.some.inj (Tryd.pg.symm.trans hg)
  obtain rfl := Option.some.inj (Tryd.pt.symm.trans ht)
  have e : (Rows.laid_internal_strconv_uint64pow10 : DataW Unit) = Lib.tabData .u64 Lib.pow10Tab := by kernel_rfl
  rw [e] at hd
  have := Lib.cells_of_tab Tryd.underlying126 Tryd.underlying117 (by kernel_rfl) (by kernel_rfl) hd
  show W.var? Tryd.prog "internal/strconv.uint64pow10" = _
  rw [hvar, ← this]
theorem pows_lt {w : World} (h : Pows w) : 2 < w.heap.size := cell_lt (World.var?_cell Tryd.pg h 0)
theorem Pows.new {w w' : World} (h : Pows w) (hlt : 2 < w.heap.size) (hb : Below w.heap.size w w') : Pows w' := by
  have e : w'.var? Tryd.prog "internal/strconv.uint64pow10" = w.var? Tryd.prog "internal/strconv.uint64pow10" := by
    unfold World.var?
    rw [Tryd.pg]
    simp only [Option.bind_some]
    rw [hb.block _ hlt]
  exact e.trans h
end Go.Proofs.YteneedblgaialaaDoor
