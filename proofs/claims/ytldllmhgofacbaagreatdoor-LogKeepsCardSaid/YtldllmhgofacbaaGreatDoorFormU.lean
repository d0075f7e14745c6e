/- Several parts: each begins with what it says. -/
import Derived.Test.YtldllmhgofacbaaGreatDoorCodeW
import Derived.Test.YtldllmhgofacbaaGreatDoorRows
import Derived.Lib.LaidTab
import Derived.ChangeArms
import Derived.OpenShut
import Derived.RowKit
import Derived.Lib.ItoaNum
import Derived.Lib.Strings
import Derived.Lay
/- The table code.forms as a row lists it: a struct a form: its name, and which of A and B are in its line. Conditions: none. -/
namespace Go.Proofs.YtldllmhgofacbaaGreatDoor
open Go.ChangeShapes Go.WideShapes Go.RowKit
set_option maxRecDepth 100000

theorem Tryz.fg : Tryz.prog.globalNamed "framekeep/code.forms" = some 0 := by kernel_rfl
theorem Tryz.ft : (Tryz.prog.globals[0]?).map (·.type) = some 176 := by kernel_rfl

def theNames : List (List UInt8) := [[], [115, 101, 116], [99, 111, 112, 121], [97, 100, 100], [115, 117, 98], [109, 117, 108], [122, 101, 114, 111], [106, 117, 109, 112], [115, 101, 110, 100], [116, 97, 107, 101], [114, 101, 115, 116], [102, 97, 105, 108]]
def formD (i : Nat) : DataW Unit := .agg [.lit (.string (theNames.getD i [])), .lit (.bool (formA i)), .lit (.bool (formB i))]
theorem forms_d : (Rows.laid_framekeep_code_forms : DataW Unit) = .agg ((List.range 12).map formD) := by rfl

theorem form_cells {w : World} {base : Nat} {sp : Nat → Bool} {held : Bool} {fuel : Nat} {cs : List Value} {x : DataW Unit × List MemPlace} (h : DataW.trod (fun _ => ()) Tryz.prog w base sp held fuel 175 cs = some x) {i : Nat} (hx : x.1 = formD i) :
    ∃ s : ByteArray, cs = [.string s, .bool (formA i), .bool (formB i)] ∧ s.data.toList = theNames.getD i [] := by
  obtain ⟨xs, n, _, rfl, hl, hxl, hg⟩ := DataW.trod_struct Tryz.underlying175 h
  have hl3 : cs.length = 3 := hl.trans (by kernel_rfl)
  simp only [formD, DataW.agg.injEq] at hx
  match xs, hxl with
  | [y0, y1, y2], _ =>
    match cs, hl3 with
    | [a0, a1, a2], _ =>
      have c0 : Tryz.prog.cellsOf 9 = 1 := by kernel_rfl
      have c1 : Tryz.prog.cellsOf 4 = 1 := by kernel_rfl
      have e0 : DataW.trod (fun _ => ()) Tryz.prog w base sp held n 9 (([a0, a1, a2].drop 0).take (Tryz.prog.cellsOf 9)) = some y0 := hg 0 _ rfl
      have e1 : DataW.trod (fun _ => ()) Tryz.prog w base sp held n 4 (([a0, a1, a2].drop 1).take (Tryz.prog.cellsOf 4)) = some y1 := hg 1 _ rfl
      have e2 : DataW.trod (fun _ => ()) Tryz.prog w base sp held n 4 (([a0, a1, a2].drop 2).take (Tryz.prog.cellsOf 4)) = some y2 := hg 2 _ rfl
      rw [c0] at e0
      rw [c1] at e1 e2
      obtain ⟨s, s1, s2, _⟩ := DataW.trod_string Tryz.underlying9 e0
      obtain ⟨b1, b2, b3⟩ := DataW.trod_bool Tryz.underlying4 e1
      obtain ⟨d1, d2, d3⟩ := DataW.trod_bool Tryz.underlying4 e2
      subst s2 b3 d3
      simp only [List.map_cons, List.map_nil, List.cons.injEq, DataW.lit.injEq, Lit.string.injEq, Lit.bool.injEq, and_true] at hx
      obtain ⟨h0, h1, h2⟩ := hx
      have q1 : a0 = .string s := List.head_eq_of_cons_eq s1
      have q2 : a1 = .bool b1 := List.head_eq_of_cons_eq b2
      have q3 : a2 = .bool d1 := List.head_eq_of_cons_eq d2
      exact ⟨s, by rw [q1, q2, q3, h1, h2], h0⟩
end Go.Proofs.YtldllmhgofacbaaGreatDoor

/- Plain: code as text, a line an op, and a text cut at a byte. No program is walked. Conditions: none. -/
namespace Go.Proofs.YtldllmhgofacbaaGreatDoor

/-- The name of an op in its line. -/
def nameOf : Nat → List UInt8
  | 1 => [115, 101, 116]
  | 2 => [99, 111, 112, 121]
  | 3 => [97, 100, 100]
  | 4 => [115, 117, 98]
  | 5 => [109, 117, 108]
  | 6 => [122, 101, 114, 111]
  | 7 => [106, 117, 109, 112]
  | 8 => [115, 101, 110, 100]
  | 9 => [116, 97, 107, 101]
  | 10 => [114, 101, 115, 116]
  | 11 => [102, 97, 105, 108]
  | _ => []
/-- The numbers that stand in an op's line. -/
def fieldsOf (o : Op) : List Int := (if formA o.what.toNat then [o.a] else []) ++ (if formB o.what.toNat then [o.b] else [])
/-- A number as it stands in a line: a blank ahead of it. -/
def numT (n : Int) : List UInt8 := 32 :: Lib.itoa n
/-- An op's line without its end. -/
def opLine (o : Op) : List UInt8 := nameOf o.what.toNat ++ (fieldsOf o).flatMap numT
def opText (o : Op) : List UInt8 := opLine o ++ [10]
def codeText (l : List Op) : List UInt8 := l.flatMap opText

/-- A text cut at each byte c, behind what has been read. -/
def cutA (c : UInt8) : List UInt8 → List UInt8 → List (List UInt8)
  | acc, [] => [acc]
  | acc, x :: r => if x = c then acc :: cutA c [] r else cutA c (acc ++ [x]) r

theorem cutA_len (c : UInt8) : ∀ (l acc : List UInt8), (cutA c acc l).length = l.count c + 1
  | [], _ => rfl
  | x :: r, acc => by
    unfold cutA
    split
    · rename_i h
      subst h
      rw [List.length_cons, cutA_len x r, List.count_cons_self]
    · rename_i h
      rw [cutA_len c r, List.count_cons_of_ne h]
theorem cutA_pass (c : UInt8) : ∀ (t acc r : List UInt8), c ∉ t → cutA c acc (t ++ r) = cutA c (acc ++ t) r
  | [], acc, r, _ => by simp
  | x :: t, acc, r, h => by
    have hx : x ≠ c := fun e => h (by simp [e])
    rw [List.cons_append, cutA, if_neg hx, cutA_pass c t _ r (fun e => h (by simp [e]))]
    simp
theorem cutA_line (c : UInt8) (t : List UInt8) (h : c ∉ t) : cutA c [] (t ++ [c]) = [t, []] := by
  rw [cutA_pass c t [] [c] h, cutA, if_pos rfl]; simp [cutA]

theorem digit_mem : ∀ (u : Nat) (x : UInt8), x ∈ Lib.decDigits u → 48 ≤ x.toNat ∧ x.toNat ≤ 57 := by
  intro u
  induction u using Nat.strongRecOn with
  | _ u ih =>
    intro x hx
    rw [Lib.decDigits] at hx
    split at hx
    · simp at hx; subst hx; simp; omega
    · rename_i h
      rw [List.mem_append] at hx
      rcases hx with hx | hx
      · exact ih (u / 10) (by omega) x hx
      · simp at hx; subst hx; simp; omega
theorem itoa_mem (n : Int) {x : UInt8} (hx : x ∈ Lib.itoa n) : 45 ≤ x.toNat ∧ x.toNat ≤ 57 := by
  unfold Lib.itoa at hx
  split at hx
  · rw [List.mem_cons] at hx
    rcases hx with rfl | hx
    · decide
    · have := digit_mem _ _ hx; omega
  · have := digit_mem _ _ hx; omega
theorem name_mem (k : Nat) : ∀ x ∈ nameOf k, 97 ≤ x.toNat ∧ x.toNat ≤ 122 := by
  unfold nameOf
  split <;> decide
theorem numT_no10 (n : Int) : (10 : UInt8) ∉ numT n := by
  unfold numT
  intro hx
  rw [List.mem_cons] at hx
  rcases hx with hx | hx
  · exact absurd hx (by decide)
  · have := itoa_mem n hx; simp at this
theorem nums_no10 (l : List Int) : (10 : UInt8) ∉ l.flatMap numT := fun hx => by
  obtain ⟨n, _, hx⟩ := List.mem_flatMap.1 hx
  exact numT_no10 n hx
theorem line_no10 (o : Op) : (10 : UInt8) ∉ opLine o := by
  unfold opLine
  intro hx
  rw [List.mem_append] at hx
  rcases hx with hx | hx
  · have := name_mem _ _ hx; simp at this
  · exact nums_no10 _ hx
theorem numT_32 (n : Int) : (numT n).count 32 = 1 := by
  unfold numT
  rw [List.count_cons_self, List.count_eq_zero.2]
  intro hx
  have := itoa_mem n hx; simp at this
theorem nums_32 : ∀ (l : List Int), (l.flatMap numT).count 32 = l.length
  | [] => rfl
  | n :: l => by
    rw [List.flatMap_cons, List.count_append, numT_32 n, nums_32 l, List.length_cons]
    omega
theorem line_32 (o : Op) : (cutA 32 [] (opLine o)).length = (fieldsOf o).length + 1 := by
  rw [cutA_len]
  unfold opLine
  rw [List.count_append, nums_32 _, List.count_eq_zero.2]
  · omega
  · intro hx
    have := name_mem _ _ hx; simp at this
theorem fields_len (o : Op) (h1 : 1 ≤ o.what) (h2 : o.what ≤ 11) : (fieldsOf o).length + 1 = if o.what = 7 then 2 else if o.what = 10 ∨ o.what = 11 then 1 else 3 := by
  obtain ⟨what, a, b⟩ := o
  simp only [] at h1 h2 ⊢
  obtain ⟨k, rfl⟩ : ∃ k : Nat, what = k := ⟨what.toNat, by omega⟩
  have : k ∈ List.range 12 := List.mem_range.2 (by omega)
  unfold fieldsOf
  simp only [Int.toNat_natCast]
  have hk : k = 1 ∨ k = 2 ∨ k = 3 ∨ k = 4 ∨ k = 5 ∨ k = 6 ∨ k = 7 ∨ k = 8 ∨ k = 9 ∨ k = 10 ∨ k = 11 := by omega
  rcases hk with rfl | rfl | rfl | rfl | rfl | rfl | rfl | rfl | rfl | rfl | rfl <;> simp [formA, formB]
end Go.Proofs.YtldllmhgofacbaaGreatDoor

/- What a tied row gives a walk where it lists code.forms and the table of the powers of ten among others: the names in the table of forms, and the powers. Conditions: none. -/
namespace Go.Proofs.YtldllmhgofacbaaGreatDoor
open Go.ChangeShapes Go.WideShapes Go.RowKit
set_option maxRecDepth 100000

/-- One listed variable's reading. -/
def Reads (w : World) (n : String) (d : DataW Unit) : Prop :=
  ∃ g t cs fuel p, Tryz.prog.globalNamed n = some g ∧ (Tryz.prog.globals[g]?).map (·.type) = some t ∧ w.var? Tryz.prog n = some cs ∧ DataW.trod (fun _ => ()) Tryz.prog w 0 (fun _ => true) false fuel t cs.toList = some (d, p)
theorem reads_of : ∀ {l : List (String × DataW Unit)} {w : World} {ps : List MemPlace}, DataW.LaidVars Tryz.prog w l ps → ∀ n d, (n, d) ∈ l → Reads w n d
  | [], _, _, _, _, _, hm => by cases hm
  | _ :: _, _, _, h, n, d, hm => by
    obtain ⟨g, t, cs, fuel, p, q, h1, h2, h3, h4, h5, _⟩ := h
    rcases List.mem_cons.1 hm with e | e
    · cases e
      exact ⟨g, t, cs, fuel, p, h1, h2, h3, h4⟩
    · exact reads_of h5 n d e
theorem reads_met {l : List (String × DataW Unit)} {w : World} (h : laidMet Tryz.prog l w) {n : String} {d : DataW Unit} (hm : (n, d) ∈ l) : Reads w n d := by
  obtain ⟨ps, hv, _⟩ := h
  exact reads_of hv n d hm

/-- The names of the table of forms. -/
def Names (w : World) : Prop := ∀ i, i < 12 → w.cell? ⟨0, i * 3, none⟩ = some (.string ⟨(nameOf i).toArray⟩)
theorem names_eq : ∀ i, i < 12 → theNames.getD i [] = nameOf i := by decide
theorem forms_of_reads {W : World} (h : Reads W "framekeep/code.forms" Rows.laid_framekeep_code_forms) : Forms W ∧ Names W := by
  obtain ⟨g, t, cs, fuel, p, hg, ht, hvar, hd⟩ := h
  obtain rfl := Option.some.inj (Tryz.fg.symm.trans hg)
  obtain rfl := Option.some.inj (Tryz.ft.symm.trans ht)
  obtain ⟨xs, m, _, hx, hl, hxl, hgt⟩ := DataW.trod_array Tryz.underlying176 hd
  rw [forms_d] at hx
  simp only [Prod.mk.injEq, DataW.agg.injEq] at hx
  have hc3 : Tryz.prog.cellsOf 175 = 3 := by kernel_rfl
  have hall : ∀ i, i < 12 → ∃ s : ByteArray, (cs.toList.drop (i * 3)).take 3 = [.string s, .bool (formA i), .bool (formB i)] ∧ s.data.toList = theNames.getD i [] := fun i hi => by
    have h1 := hgt i hi
    rw [hc3] at h1
    have hlt : i < xs.length := by omega
    rw [List.getElem?_eq_getElem hlt] at h1
    refine form_cells h1 ?_
    have h2 : ((List.range 12).map formD)[i]? = (xs.map (·.1))[i]? := by rw [hx.1]
    rw [List.getElem?_map, List.getElem?_map, List.getElem?_eq_getElem hlt, List.getElem?_range hi] at h2
    simpa using h2.symm
  have hcell := fun o => World.var?_cell Tryz.fg hvar o
  have hat : ∀ i j, i < 12 → j < 3 → W.cell? ⟨0, i * 3 + j, none⟩ = ((cs.toList.drop (i * 3)).take 3)[j]? := fun i j hi hj => by
    rw [hcell, List.getElem?_take, if_pos hj, List.getElem?_drop, Array.getElem?_toList]
  have ha : ∀ i, i < 12 → W.cell? ⟨0, i * 3 + 1, none⟩ = some (.bool (formA i)) := fun i hi => by
    obtain ⟨s, e, _⟩ := hall i hi
    rw [hat i 1 hi (by omega), e]; rfl
  refine ⟨⟨cell_lt (ha 0 (by omega)), ha, fun i hi => ?_⟩, fun i hi => ?_⟩
  · obtain ⟨s, e, _⟩ := hall i hi
    rw [hat i 2 hi (by omega), e]; rfl
  · obtain ⟨s, e, es⟩ := hall i hi
    have h0 := hat i 0 hi (by omega)
    rw [Nat.add_zero, e] at h0
    rw [h0, ← names_eq i hi, ← es, Lib.mk_data]; rfl
theorem Names.new {w w' : World} (h : Names w) (hf : Forms w) (hb : Below w.heap.size w w') : Names w' := fun i hi => (hb.cell (p := ⟨0, i * 3, none⟩) hf.lt).trans (h i hi)

/-- The table of the powers of ten lies as the library lays it. -/
def Pows (w : World) : Prop := Lib.TabIs Tryz.prog w "internal/strconv.uint64pow10" .u64 Lib.pow10Tab
theorem Tryz.pg : Tryz.prog.globalNamed "internal/strconv.uint64pow10" = some 5 := by kernel_rfl
theorem Tryz.pt : (Tryz.prog.globals[5]?).map (·.type) = some 302 := by kernel_rfl
theorem pows_of_reads {W : World} (h : Reads W "internal/strconv.uint64pow10" Rows.laid_internal_strconv_uint64pow10) : Pows W := by
  obtain ⟨g, t, cs, fuel, p, hg, ht, hvar, hd⟩ := h
  obtain rfl := Option.some.inj (Tryz.pg.symm.trans hg)
  obtain rfl := Option.some.inj (Tryz.pt.symm.trans ht)
  have e : (Rows.laid_internal_strconv_uint64pow10 : DataW Unit) = Lib.tabData .u64 Lib.pow10Tab := by kernel_rfl
  rw [e] at hd
  have := Lib.cells_of_tab Tryz.underlying302 Tryz.underlying282 (by kernel_rfl) (by kernel_rfl) hd
  show W.var? Tryz.prog "internal/strconv.uint64pow10" = _
  rw [hvar, ← this]
theorem pows_lt {w : World} (h : Pows w) : 5 < w.heap.size := cell_lt (World.var?_cell Tryz.pg h 0)
theorem Pows.new {w w' : World} (h : Pows w) (hlt : 5 < w.heap.size) (hb : Below w.heap.size w w') : Pows w' := by
  have e : w'.var? Tryz.prog "internal/strconv.uint64pow10" = w.var? Tryz.prog "internal/strconv.uint64pow10" := by
    unfold World.var?
    rw [Tryz.pg]
    simp only [Option.bind_some]
    rw [hb.block _ hlt]
  exact e.trans h
end Go.Proofs.YtldllmhgofacbaaGreatDoor
