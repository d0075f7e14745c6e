/- Several parts: each begins with what it says. -/
import Derived.Test.YthdmgighblhmhaaGreatDoorCodeW
import Derived.Test.YthdmgighblhmhaaGreatDoorRows
import Derived.Lib.LaidTab
import Derived.ChangeArms
import Derived.OpenShut
import Derived.RowKit
import Derived.Lib.ItoaNum
import Derived.Lib.Strings
import Derived.Lay
import Derived.Lib.AtoiAll
import Derived.Test.YthdmgighblhmhaaGreatDoorLineU
import Derived.Test.YthdmgighblhmhaaGreatDoorShelf
import Derived.Lib.ItoaLen
import Derived.Lib.Bytealg
import Derived.Lib.IndexBytes
import Derived.Lib.CountLaws
/- The table code.forms as a row lists it: a struct a form: its name, and which of A and B are in its line. Conditions: none. -/
namespace Go.Proofs.YthdmgighblhmhaaGreatDoor
open Go.ChangeShapes Go.WideShapes Go.RowKit
set_option maxRecDepth 100000

theorem Tryz.fg : Tryz.prog.globalNamed "framekeep/code.forms" = some 3 := by kernel_rfl
theorem Tryz.ft : (Tryz.prog.globals[3]?).map (·.type) = some 182 := by kernel_rfl

def theNames : List (List UInt8) := [[], [115, 101, 116], [99, 111, 112, 121], [97, 100, 100], [115, 117, 98], [109, 117, 108], [122, 101, 114, 111], [106, 117, 109, 112], [115, 101, 110, 100], [116, 97, 107, 101], [114, 101, 115, 116], [102, 97, 105, 108]]
def formD (i : Nat) : DataW Unit := .agg [.lit (.string (theNames.getD i [])), .lit (.bool (formA i)), .lit (.bool (formB i))]
theorem forms_d : (Rows.laid_framekeep_code_forms : DataW Unit) = .agg ((List.range 12).map formD) := by rfl

theorem form_cells {w : World} {base : Nat} {sp : Nat → Bool} {held : Bool} {fuel : Nat} {cs : List Value} {x : DataW Unit × List MemPlace} (h : DataW.trod (fun _ => ()) Tryz.prog w base sp held fuel 181 cs = some x) {i : Nat} (hx : x.1 = formD i) :
    ∃ s : ByteArray, cs = [.string s, .bool (formA i), .bool (formB i)] ∧ s.data.toList = theNames.getD i [] := by
  obtain ⟨xs, n, _, rfl, hl, hxl, hg⟩ := DataW.trod_struct Tryz.underlying181 h
  have hl3 : cs.length = 3 := hl.trans (by kernel_rfl)
  simp only [formD, DataW.agg.injEq] at hx
  match xs, hxl with
  | [y0, y1, y2], _ =>
    match cs, hl3 with
    | [a0, a1, a2], _ =>
      have c0 : Tryz.prog.cellsOf 9 = 1 := by kernel_rfl
      have c1 : Tryz.prog.cellsOf 4 = 1 := by kernel_rfl
      have e0 : DataW.trod (fun _ => ()) Tryz.prog w base sp held n 9 (([a0, a1, a2].drop 0).take (Tryz.prog.cellsOf 9)) = some y0 := hg 0 _ rfl
      have e1 : DataW.trod (fun _ => ()) Tryz.prog w base sp held n 4 (([a0, a1, a2].drop 1).take (Tryz.prog.cellsOf 4)) = some y1 := hg 1 _ rfl
      have e2 : DataW.trod (fun _ => ()) Tryz.prog w base sp held n 4 (([a0, a1, a2].drop 2).take (Tryz.prog.cellsOf 4)) = some y2 := hg 2 _ rfl
      rw [c0] at e0
      rw [c1] at e1 e2
      obtain ⟨s, s1, s2, _⟩ := DataW.trod_string Tryz.underlying9 e0
      obtain ⟨b1, b2, b3⟩ := DataW.trod_bool Tryz.underlying4 e1
      obtain ⟨d1, d2, d3⟩ := DataW.trod_bool Tryz.underlying4 e2
      subst s2 b3 d3
      simp only [List.map_cons, List.map_nil, List.cons.injEq, DataW.lit.injEq, Lit.string.injEq, Lit.bool.injEq, and_true] at hx
      obtain ⟨h0, h1, h2⟩ := hx
      have q1 : a0 = .string s := List.head_eq_of_cons_eq s1
      have q2 : a1 = .bool b1 := List.head_eq_of_cons_eq b2
      have q3 : a2 = .bool d1 := List.head_eq_of_cons_eq d2
      exact ⟨s, by rw [q1, q2, q3, h1, h2], h0⟩
end Go.Proofs.YthdmgighblhmhaaGreatDoor

/- Plain: code as text, a line an op, and a text cut at a byte. No program is walked. Conditions: none. -/
namespace Go.Proofs.YthdmgighblhmhaaGreatDoor

/-- The name of an op in its line. -/
def nameOf : Nat → List UInt8
  | 1 => [115, 101, 116]
  | 2 => [99, 111, 112, 121]
  | 3 => [97, 100, 100]
  | 4 => [115, 117, 98]
  | 5 => [109, 117, 108]
  | 6 => [122, 101, 114, 111]
  | 7 => [106, 117, 109, 112]
  | 8 => [115, 101, 110, 100]
  | 9 => [116, 97, 107, 101]
  | 10 => [114, 101, 115, 116]
  | 11 => [102, 97, 105, 108]
  | _ => []
/-- The numbers that stand in an op's line. -/
def fieldsOf (o : Op) : List Int := (if formA o.what.toNat then [o.a] else []) ++ (if formB o.what.toNat then [o.b] else [])
/-- A number as it stands in a line: a blank ahead of it. -/
def numT (n : Int) : List UInt8 := 32 :: Lib.itoa n
/-- An op's line without its end. -/
def opLine (o : Op) : List UInt8 := nameOf o.what.toNat ++ (fieldsOf o).flatMap numT
def opText (o : Op) : List UInt8 := opLine o ++ [10]
def codeText (l : List Op) : List UInt8 := l.flatMap opText

/-- A text cut at each byte c, behind what has been read. -/
def cutA (c : UInt8) : List UInt8 → List UInt8 → List (List UInt8)
  | acc, [] => [acc]
  | acc, x :: r => if x = c then acc :: cutA c [] r else cutA c (acc ++ [x]) r

theorem cutA_len (c : UInt8) : ∀ (l acc : List UInt8), (cutA c acc l).length = l.count c + 1
  | [], _ => rfl
  | x :: r, acc => by
    unfold cutA
    split
    · rename_i h
      subst h
      rw [List.length_cons, cutA_len x r, List.count_cons_self]
    · rename_i h
      rw [cutA_len c r, List.count_cons_of_ne h]
theorem cutA_pass (c : UInt8) : ∀ (t acc r : List UInt8), c ∉ t → cutA c acc (t ++ r) = cutA c (acc ++ t) r
  | [], acc, r, _ => by simp
  | x :: t, acc, r, h => by
    have hx : x ≠ c := fun e => h (by simp [e])
    rw [List.cons_append, cutA, if_neg hx, cutA_pass c t _ r (fun e => h (by simp [e]))]
    simp
theorem cutA_line (c : UInt8) (t : List UInt8) (h : c ∉ t) : cutA c [] (t ++ [c]) = [t, []] := by
  rw [cutA_pass c t [] [c] h, cutA, if_pos rfl]; simp [cutA]

theorem digit_mem : ∀ (u : Nat) (x : UInt8), x ∈ Lib.decDigits u → 48 ≤ x.toNat ∧ x.toNat ≤ 57 := by
  intro u
  induction u using Nat.strongRecOn with
  | _ u ih =>
    intro x hx
    rw [Lib.decDigits] at hx
    split at hx
    · simp at hx; subst hx; simp; omega
    · rename_i h
      rw [List.mem_append] at hx
      rcases hx with hx | hx
      · exact ih (u / 10) (by omega) x hx
      · simp at hx; subst hx; simp; omega
theorem itoa_mem (n : Int) {x : UInt8} (hx : x ∈ Lib.itoa n) : 45 ≤ x.toNat ∧ x.toNat ≤ 57 := by
  unfold Lib.itoa at hx
  split at hx
  · rw [List.mem_cons] at hx
    rcases hx with rfl | hx
    · decide
    · have := digit_mem _ _ hx; omega
  · have := digit_mem _ _ hx; omega
theorem name_mem (k : Nat) : ∀ x ∈ nameOf k, 97 ≤ x.toNat ∧ x.toNat ≤ 122 := by
  unfold nameOf
  split <;> decide
theorem numT_no10 (n : Int) : (10 : UInt8) ∉ numT n := by
  unfold numT
  intro hx
  rw [List.mem_cons] at hx
  rcases hx with hx | hx
  · exact absurd hx (by decide)
  · have := itoa_mem n hx; simp at this
theorem nums_no10 (l : List Int) : (10 : UInt8) ∉ l.flatMap numT := fun hx => by
  obtain ⟨n, _, hx⟩ := List.mem_flatMap.1 hx
  exact numT_no10 n hx
theorem line_no10 (o : Op) : (10 : UInt8) ∉ opLine o := by
  unfold opLine
  intro hx
  rw [List.mem_append] at hx
  rcases hx with hx | hx
  · have := name_mem _ _ hx; simp at this
  · exact nums_no10 _ hx
theorem numT_32 (n : Int) : (numT n).count 32 = 1 := by
  unfold numT
  rw [List.count_cons_self, List.count_eq_zero.2]
  intro hx
  have := itoa_mem n hx; simp at this
theorem nums_32 : ∀ (l : List Int), (l.flatMap numT).count 32 = l.length
  | [] => rfl
  | n :: l => by
    rw [List.flatMap_cons, List.count_append, numT_32 n, nums_32 l, List.length_cons]
    omega
theorem line_32 (o : Op) : (cutA 32 [] (opLine o)).length = (fieldsOf o).length + 1 := by
  rw [cutA_len]
  unfold opLine
  rw [List.count_append, nums_32 _, List.count_eq_zero.2]
  · omega
  · intro hx
    have := name_mem _ _ hx; simp at this
theorem fields_len (o : Op) (h1 : 1 ≤ o.what) (h2 : o.what ≤ 11) : (fieldsOf o).length + 1 = if o.what = 7 then 2 else if o.what = 10 ∨ o.what = 11 then 1 else 3 := by
  obtain ⟨what, a, b⟩ := o
  simp only [] at h1 h2 ⊢
  obtain ⟨k, rfl⟩ : ∃ k : Nat, what = k := ⟨what.toNat, by omega⟩
  have : k ∈ List.range 12 := List.mem_range.2 (by omega)
  unfold fieldsOf
  simp only [Int.toNat_natCast]
  have hk : k = 1 ∨ k = 2 ∨ k = 3 ∨ k = 4 ∨ k = 5 ∨ k = 6 ∨ k = 7 ∨ k = 8 ∨ k = 9 ∨ k = 10 ∨ k = 11 := by omega
  rcases hk with rfl | rfl | rfl | rfl | rfl | rfl | rfl | rfl | rfl | rfl | rfl <;> simp [formA, formB]
end Go.Proofs.YthdmgighblhmhaaGreatDoor

/- What a tied row gives a walk where it lists code.forms and the table of the powers of ten among others: the names in the table of forms, and the powers. Conditions: none. -/
namespace Go.Proofs.YthdmgighblhmhaaGreatDoor
open Go.ChangeShapes Go.WideShapes Go.RowKit
set_option maxRecDepth 100000

/-- One listed variable's reading. -/
def Reads (w : World) (n : String) (d : DataW Unit) : Prop :=
  ∃ g t cs fuel p, Tryz.prog.globalNamed n = some g ∧ (Tryz.prog.globals[g]?).map (·.type) = some t ∧ w.var? Tryz.prog n = some cs ∧ DataW.trod (fun _ => ()) Tryz.prog w 0 (fun _ => true) false fuel t cs.toList = some (d, p)
theorem reads_of : ∀ {l : List (String × DataW Unit)} {w : World} {ps : List MemPlace}, DataW.LaidVars Tryz.prog w l ps → ∀ n d, (n, d) ∈ l → Reads w n d
  | [], _, _, _, _, _, hm => by cases hm
  | _ :: _, _, _, h, n, d, hm => by
    obtain ⟨g, t, cs, fuel, p, q, h1, h2, h3, h4, h5, _⟩ := h
    rcases List.mem_cons.1 hm with e | e
    · cases e
      exact ⟨g, t, cs, fuel, p, h1, h2, h3, h4⟩
    · exact reads_of h5 n d e
theorem reads_met {l : List (String × DataW Unit)} {w : World} (h : laidMet Tryz.prog l w) {n : String} {d : DataW Unit} (hm : (n, d) ∈ l) : Reads w n d := by
  obtain ⟨ps, hv, _⟩ := h
  exact reads_of hv n d hm

/-- The names of the table of forms. -/
def Names (w : World) : Prop := ∀ i, i < 12 → w.cell? ⟨3, i * 3, none⟩ = some (.string ⟨(nameOf i).toArray⟩)
theorem names_eq : ∀ i, i < 12 → theNames.getD i [] = nameOf i := by decide
theorem forms_of_reads {W : World} (h : Reads W "framekeep/code.forms" Rows.laid_framekeep_code_forms) : Forms W ∧ Names W := by
  obtain ⟨g, t, cs, fuel, p, hg, ht, hvar, hd⟩ := h
  obtain rfl := Option.some.inj (Tryz.fg.symm.trans hg)
  obtain rfl := Option.some.inj (Tryz.ft.symm.trans ht)
  obtain ⟨xs, m, _, hx, hl, hxl, hgt⟩ := DataW.trod_array Tryz.underlying182 hd
  rw [forms_d] at hx
  simp only [Prod.mk.injEq, DataW.agg.injEq] at hx
  have hc3 : Tryz.prog.cellsOf 181 = 3 := by kernel_rfl
  have hall : ∀ i, i < 12 → ∃ s : ByteArray, (cs.toList.drop (i * 3)).take 3 = [.string s, .bool (formA i), .bool (formB i)] ∧ s.data.toList = theNames.getD i [] := fun i hi => by
    have h1 := hgt i hi
    rw [hc3] at h1
    have hlt : i < xs.length := by omega
    rw [List.getElem?_eq_getElem hlt] at h1
    refine form_cells h1 ?_
    have h2 : ((List.range 12).map formD)[i]? = (xs.map (·.1))[i]? := by rw [hx.1]
    rw [List.getElem?_map, List.getElem?_map, List.getElem?_eq_getElem hlt, List.getElem?_range hi] at h2
    simpa using h2.symm
  have hcell := fun o => World.var?_cell Tryz.fg hvar o
  have hat : ∀ i j, i < 12 → j < 3 → W.cell? ⟨3, i * 3 + j, none⟩ = ((cs.toList.drop (i * 3)).take 3)[j]? := fun i j hi hj => by
    rw [hcell, List.getElem?_take, if_pos hj, List.getElem?_drop, Array.getElem?_toList]
  have ha : ∀ i, i < 12 → W.cell? ⟨3, i * 3 + 1, none⟩ = some (.bool (formA i)) := fun i hi => by
    obtain ⟨s, e, _⟩ := hall i hi
    rw [hat i 1 hi (by omega), e]; rfl
  refine ⟨⟨cell_lt (ha 0 (by omega)), ha, fun i hi => ?_⟩, fun i hi => ?_⟩
  · obtain ⟨s, e, _⟩ := hall i hi
    rw [hat i 2 hi (by omega), e]; rfl
  · obtain ⟨s, e, es⟩ := hall i hi
    have h0 := hat i 0 hi (by omega)
    rw [Nat.add_zero, e] at h0
    rw [h0, ← names_eq i hi, ← es, Lib.mk_data]; rfl
theorem Names.new {w w' : World} (h : Names w) (hf : Forms w) (hb : Below w.heap.size w w') : Names w' := fun i hi => (hb.cell (p := ⟨3, i * 3, none⟩) hf.lt).trans (h i hi)

/-- The table of the powers of ten lies as the library lays it. -/
def Pows (w : World) : Prop := Lib.TabIs Tryz.prog w "internal/strconv.uint64pow10" .u64 Lib.pow10Tab
theorem Tryz.pg : Tryz.prog.globalNamed "internal/strconv.uint64pow10" = some 8 := by kernel_rfl
theorem Tryz.pt : (Tryz.prog.globals[8]?).map (·.type) = some 223 := by kernel_rfl
theorem pows_of_reads {W : World} (h : Reads W "internal/strconv.uint64pow10" Rows.laid_internal_strconv_uint64pow10) : Pows W := by
  obtain ⟨g, t, cs, fuel, p, hg, ht, hvar, hd⟩ := h
  obtain rfl := Option.some.inj (Tryz.pg.symm.trans hg)
  obtain rfl := Option.some.inj (Tryz.pt.symm.trans ht)
  have e : (Rows.laid_internal_strconv_uint64pow10 : DataW Unit) = Lib.tabData .u64 Lib.pow10Tab := by kernel_rfl
  rw [e] at hd
  have := Lib.cells_of_tab Tryz.underlying223 Tryz.underlying205 (by kernel_rfl) (by kernel_rfl) hd
  show W.var? Tryz.prog "internal/strconv.uint64pow10" = _
  rw [hvar, ← this]
theorem pows_lt {w : World} (h : Pows w) : 8 < w.heap.size := cell_lt (World.var?_cell Tryz.pg h 0)
theorem Pows.new {w w' : World} (h : Pows w) (hlt : 8 < w.heap.size) (hb : Below w.heap.size w w') : Pows w' := by
  have e : w'.var? Tryz.prog "internal/strconv.uint64pow10" = w.var? Tryz.prog "internal/strconv.uint64pow10" := by
    unfold World.var?
    rw [Tryz.pg]
    simp only [Option.bind_some]
    rw [hb.block _ hlt]
  exact e.trans h
end Go.Proofs.YthdmgighblhmhaaGreatDoor

/- Plain: numbers as text: what is read as a number of at most so many digits. No program is walked. Conditions: none. -/
namespace Go.Proofs.YthdmgighblhmhaaGreatDoor
open Go.Lib

theorem parse_app : ∀ (l r : List UInt8) (acc v : Nat), parseUint10 acc l = .ok v → parseUint10 acc (l ++ r) = parseUint10 v r
  | [], r, acc, v, h => by
    simp only [parseUint10] at h
    injection h with h
    rw [List.nil_append, h]
  | c :: l, r, acc, v, h => by
    simp only [parseUint10, List.cons_append] at h ⊢
    split at h
    · rename_i h1
      rw [if_pos h1]
      split at h
      · cases h
      · rename_i h2
        rw [if_neg h2]
        split at h
        · cases h
        · rename_i h3
          rw [if_neg h3]
          exact parse_app l r _ v h
    · cases h
theorem parse_dec : ∀ u : Nat, u < 18446744073709551616 → parseUint10 0 (decDigits u) = .ok u := by
  intro u
  induction u using Nat.strongRecOn with
  | _ u ih =>
    intro hu
    rw [decDigits]
    split
    · rename_i h
      have h1 : (UInt8.ofNat (48 + u)).toNat = 48 + u := by simp; omega
      simp only [parseUint10, h1]
      rw [if_pos (by omega), if_neg (by omega), if_neg (by omega)]
      congr 1; omega
    · rename_i h
      rw [parse_app _ _ 0 (u / 10) (ih (u / 10) (by omega) (by omega))]
      have h1 : (UInt8.ofNat (48 + u % 10)).toNat = 48 + u % 10 := by simp; omega
      simp only [parseUint10, h1]
      rw [if_pos (by omega), if_neg (by omega), if_neg (by omega)]
      congr 1; omega
theorem dec_ne (u : Nat) : decDigits u ≠ [] := fun h => by
  have := decDigits_length u
  have := nDigits_pos u
  rw [h] at *; simp at *; omega
theorem dec_digit : ∀ (u : Nat) (x : UInt8), x ∈ decDigits u → 48 ≤ x.toNat ∧ x.toNat ≤ 57 := by
  intro u
  induction u using Nat.strongRecOn with
  | _ u ih =>
    intro x hx
    rw [decDigits] at hx
    split at hx
    · simp at hx; subst hx; simp; omega
    · rename_i h
      rw [List.mem_append] at hx
      rcases hx with hx | hx
      · exact ih (u / 10) (by omega) x hx
      · simp at hx; subst hx; simp; omega
theorem atoi_dec (u : Nat) (h : u < 9223372036854775808) : atoiAll (decDigits u) = .ok (u : Int) := by
  have hp := parse_dec u (by omega)
  have hne := dec_ne u
  have hd := dec_digit u
  generalize decDigits u = l at hp hne hd
  match l, hne with
  | c :: r, _ =>
    have hc := hd c (by simp)
    have e1 : ¬ c.toNat = 43 := by omega
    have e2 : ¬ c.toNat = 45 := by omega
    have e3 : ¬ 9223372036854775808 ≤ u := by omega
    unfold atoiAll parseMag
    simp only [e1, e2, e3, or_self, if_false, hp, reduceCtorEq, not_false_eq_true, true_and, false_and]
/-- What is a number of at most so many digits, without a needless zero. -/
def numOf (most : Int) (s : List UInt8) : Option Nat :=
  match atoiAll s with
  | .ok v => if 0 ≤ v ∧ (s.length : Int) ≤ most ∧ itoa v = s then some v.toNat else none
  | _ => none
theorem itoa_nat (n : Nat) : itoa (n : Int) = decDigits n := by
  unfold itoa
  rw [if_neg (by omega), Int.toNat_natCast]
theorem num_lt {n k : Nat} (h : (decDigits n).length ≤ k) : n < 10 ^ k := by
  rw [decDigits_length] at h
  exact Nat.lt_of_lt_of_le (lt_pow_nDigits n) (Nat.pow_le_pow_right (by decide) h)
theorem numOf_some {most : Int} {s : List UInt8} {n : Nat} (hm : most ≤ 18) : numOf most s = some n ↔ itoa (n : Int) = s ∧ (s.length : Int) ≤ most := by
  unfold numOf
  constructor
  · intro h
    split at h
    · rename_i v hv
      split at h
      · rename_i h1
        injection h with h
        have e : (n : Int) = v := by omega
        rw [e]; exact ⟨h1.2.2, h1.2.1⟩
      · cases h
    · cases h
  · rintro ⟨h1, h2⟩
    have h3 : n < 10 ^ 18 := num_lt (by rw [← itoa_nat, h1]; omega)
    have h4 : atoiAll s = .ok (n : Int) := by rw [← h1, itoa_nat]; exact atoi_dec n (by omega)
    rw [h4]
    simp only []
    rw [if_pos ⟨by omega, h2, h1⟩, Int.toNat_natCast]
theorem numOf_lt {most : Int} {s : List UInt8} {n : Nat} (hm : most ≤ 18) (h : numOf most s = some n) : n < 10 ^ most.toNat := by
  obtain ⟨h1, h2⟩ := (numOf_some hm).1 h
  exact num_lt (by rw [← itoa_nat, h1]; omega)
theorem itoa_inj {a b : Nat} (ha : a < 9223372036854775808) (hb : b < 9223372036854775808) (h : itoa (a : Int) = itoa (b : Int)) : a = b := by
  rw [itoa_nat, itoa_nat] at h
  have h1 := atoi_dec a ha
  rw [h, atoi_dec b hb] at h1
  injection h1 with h1
  omega
/-- Words that are all numbers. -/
def numsOf (most : Int) : List (List UInt8) → Option (List Nat)
  | [] => some []
  | s :: l => match numOf most s with
    | none => none
    | some n => (numsOf most l).map (n :: ·)
theorem numsOf_some {most : Int} (hm : most ≤ 18) : ∀ {l : List (List UInt8)} {ns : List Nat}, numsOf most l = some ns ↔ l = ns.map (fun n : Nat => itoa (n : Int)) ∧ ∀ s ∈ l, (s.length : Int) ≤ most
  | [], ns => by
    unfold numsOf
    constructor
    · intro h; injection h with h; subst h; simp
    · rintro ⟨h, _⟩
      cases ns with
      | nil => rfl
      | cons n ns => simp at h
  | s :: l, ns => by
    unfold numsOf
    constructor
    · intro h
      split at h
      · cases h
      · rename_i n hn
        obtain ⟨ms, h1, rfl⟩ := Option.map_eq_some_iff.1 h
        obtain ⟨e1, e2⟩ := (numOf_some hm).1 hn
        obtain ⟨e3, e4⟩ := (numsOf_some hm).1 h1
        refine ⟨by rw [List.map_cons, e1, ← e3], fun t ht => ?_⟩
        rcases List.mem_cons.1 ht with rfl | ht
        · exact e2
        · exact e4 t ht
    · rintro ⟨h1, h2⟩
      cases ns with
      | nil => simp at h1
      | cons n ns =>
        rw [List.map_cons] at h1
        injection h1 with h3 h4
        rw [(numOf_some hm).2 ⟨h3.symm, h2 s (by simp)⟩]
        simp only []
        rw [(numsOf_some hm).2 ⟨h4, fun t ht => h2 t (by simp [ht])⟩]
        rfl
theorem numsOf_snoc {most : Int} : ∀ {l : List (List UInt8)} {s : List UInt8} {ns : List Nat}, numsOf most l = some ns → numsOf most (l ++ [s]) = (numOf most s).map (fun n => ns ++ [n])
  | [], s, ns, h => by
    unfold numsOf at h
    injection h with h
    subst h
    simp only [List.nil_append, numsOf]
    cases numOf most s <;> rfl
  | t :: l, s, ns, h => by
    unfold numsOf at h
    rw [List.cons_append]
    unfold numsOf
    split at h
    · cases h
    · rename_i n hn
      obtain ⟨ms, h1, rfl⟩ := Option.map_eq_some_iff.1 h
      rw [numsOf_snoc h1]
      cases numOf most s <;> rfl
theorem numsOf_bad {most : Int} : ∀ {l : List (List UInt8)} {s : List UInt8} {r : List (List UInt8)}, numOf most s = none → numsOf most (l ++ s :: r) = none
  | [], s, r, h => by
    rw [List.nil_append]; unfold numsOf; rw [h]
  | t :: l, s, r, h => by
    rw [List.cons_append]
    unfold numsOf
    cases numOf most t with
    | none => rfl
    | some n => simp only []; rw [numsOf_bad h]; rfl
end Go.Proofs.YthdmgighblhmhaaGreatDoor

/- The reference (package frameref1): the contract of Cut, for every text. -/
namespace Go.Proofs.YthdmgighblhmhaaGreatDoor
open Go.RowKit
set_option maxRecDepth 100000

/-- A text as a value. -/
def txt (l : List UInt8) : Value := .string ⟨l.toArray⟩
theorem Tryz.infoStr : (Tryz.prog.info? 9).map (fun i => (i.zero, i.size, i.bytes)) = some (some (.string ⟨#[]⟩), 1, 16) := by kernel_rfl

/-- Where a text is being cut: what lies behind place k. -/
structure CutAt (c : UInt8) (L : List UInt8) (k fr : Nat) (done : List (List UInt8)) : Prop where
  le : fr ≤ k
  eq : cutA c [] L = done ++ cutA c ((L.take k).drop fr) (L.drop k)
  few : done.length ≤ k
theorem CutAt.hit {c : UInt8} {L : List UInt8} {k fr : Nat} {done : List (List UInt8)} (h : CutAt c L k fr done) (hk : k < L.length) (hc : L[k] = c) : CutAt c L (k + 1) (k + 1) (done ++ [(L.take k).drop fr]) := by
  refine ⟨Nat.le_refl _, ?_, by simp; have := h.few; omega⟩
  rw [h.eq, List.drop_eq_getElem_cons hk, cutA, if_pos hc]
  simp
theorem CutAt.miss {c : UInt8} {L : List UInt8} {k fr : Nat} {done : List (List UInt8)} (h : CutAt c L k fr done) (hk : k < L.length) (hc : L[k] ≠ c) : CutAt c L (k + 1) fr done := by
  have hl := h.le
  refine ⟨by omega, ?_, by have := h.few; omega⟩
  rw [h.eq, List.drop_eq_getElem_cons hk, cutA, if_neg hc]
  congr 2
  rw [List.take_succ_eq_append_getElem hk, List.drop_append, List.length_take, Nat.min_eq_left (by omega), show fr - k = 0 by omega, List.drop_zero]
theorem CutAt.done {c : UInt8} {L : List UInt8} {k fr : Nat} {done : List (List UInt8)} (h : CutAt c L k fr done) (hk : k = L.length) : cutA c [] L = done ++ [L.drop fr] := by
  subst hk
  rw [h.eq, List.take_length, List.drop_length]
  rfl

theorem byte_eq {s : ByteArray} {L : List UInt8} (h : L = s.data.toList) {k : Nat} (hs : k < s.size) (hl : k < L.length) (c : UInt8) : (((s[k]'hs).toNat : Int) == (c.toNat : Int)) = (L[k] == c) := by
  subst h
  have e : s[k]'hs = s.data.toList[k]'hl := by rw [Array.getElem_toList]; rfl
  rw [e, Bool.eq_iff_iff]
  simp only [beq_iff_eq]
  constructor
  · intro h; exact UInt8.toNat_inj.1 (by omega)
  · intro h; rw [h]
/-- The slice of one that an append is handed. -/
theorem one_sl (w : World) (v : Value) (T : Nat) : Sl (w.alloc (.cells #[v] T)) (some ⟨w.heap.size, 0, none⟩) 1 1 [v] := by
  refine ⟨rfl, fun _ => ⟨w.heap.size, 0, rfl, by simp, fun j u hu => ?_⟩⟩
  rw [Nat.zero_add, blk_cell (heap_alloc_new w _)]
  simpa using hu
/-- An append onto a row that is new since w0. -/
theorem keep_own {w0 w w1 : World} {A : Option Addr} {o : Obj} (hb : Below w0.heap.size w0 w) (hA : ∀ i, InA A i → w0.heap.size ≤ i) (hk : Keep (InA A) (w.alloc o) w1) : Below w0.heap.size w0 w1 :=
  (hb.alloc hb.size o).trans (Keep.below hk (by have := hb.size; simp; omega) hA)

set_option maxHeartbeats 2000000 in
theorem cut_any (s : ByteArray) (c : UInt8) (w : World) (hs : s.size ≤ 1099511627776) :
    Calls Tryz.prog 7 #[.string s, .int .u8 c.toNat] w fun e w' => ∃ A cap, e = .returned (.slice A (cutA c [] s.data.toList).length cap) ∧
      Row w' 9 1 A (cutA c [] s.data.toList).length cap ((cutA c [] s.data.toList).map txt) ∧ (∀ i, InA A i → w.heap.size ≤ i) ∧ Below w.heap.size w w' := by
  obtain ⟨i0, hi0, hz0, hz1, hz2⟩ := info_parts Tryz.infoStr
  obtain ⟨L, hL⟩ : ∃ L, L = s.data.toList := ⟨_, rfl⟩
  have hLs : s.size = L.length := by rw [hL]; exact Lib.size_eq s
  rw [← hL]
  have HL := hid hL
  have HLS := hid hLs
  clear hL hLs
  go_enter Tryz.func7, Tryz.ntmps7
  go_wp2_with fail
  go_loopw [5, 6, 7] (fun v5 v6 v7 wr => ∃ (k fr : Nat) (A : Option Addr) (n cap : Nat) (done : List (List UInt8)), k ≤ L.length ∧ v5 = .slice A n cap ∧ v6 = .int .i64 fr ∧ v7 = .int .i64 k ∧ done.length = n ∧ CutAt c L k fr done ∧ Row wr 9 1 A n cap (done.map txt) ∧ (∀ i, InA A i → w.heap.size ≤ i) ∧ Below w.heap.size w wr) (fun _ _ v7 _ => s.size - (intOf v7).toNat)
  case atStart => exact ⟨0, 0, none, 0, 0, [], by omega, rfl, rfl, rfl, rfl, ⟨Nat.le_refl _, by simp, Nat.le_refl _⟩, Row.nil _ _ _, fun i hi => by simp [InA] at hi, Below.refl _ _⟩
  case round =>
    obtain ⟨k, fr, A, n, cap, done, hk, rfl, rfl, rfl, hn, hcut, hrow, hnew, hb⟩ := hrel
    have HN := hid hn
    have HCUT := hid hcut
    have HROW := hid hrow
    have HNEW := hid hnew
    have HB := hid hb
    have hfk := hcut.le
    have hnk : n ≤ k := by rw [← hn]; exact hcut.few
    clear hn hcut hrow hnew hb
    by_cases hlt : k < L.length
    · have hks : k < s.size := by rw [HLS.out]; exact hlt
      have hcb : (((s[k]'hks).toNat : Int) == (c.toNat : Int)) = (L[k] == c) := byte_eq HL.out hks hlt c
      cases hc : (L[k] == c) with
      | true =>
        rw [hc] at hcb
        have hce : L[k] = c := by simpa using hc
        have HNEXT := hid (HCUT.out.hit hlt hce)
        clear hc hce
        go_wp2_with (at_builtin; refine wpList_append_row _ rfl _ _ 23 rfl 9 i0 (.string ⟨#[]⟩) 1 16 Tryz.underlying23 hi0 hz0 hz1 hz2 rfl (by decide) A n cap (done.map txt) rfl ?c0 (some ⟨wr.heap.size, 0, none⟩) 1 1 [.string (s.extract fr k)] rfl ?c1 ?c2 ?c3 ?c4 ?_)
        case c0 => exact HROW.out.alloc _
        case c1 => exact one_sl wr _ _
        case c2 => intro u hu; simp at hu; subst hu; rfl
        case c3 => unfold maxLen; omega
        case c4 => omega
        intro A' cap' w1 hrow1 hkeep1 hin1
        have hb1 := hkeep1
        have HR1 := hid hrow1
        have HK1 := hid hkeep1
        have HI1 := hid hin1
        clear hrow1 hkeep1 hin1 hb1
        go_wp2_with fail
        go_roundw
        case rel =>
          refine ⟨k + 1, k + 1, A', n + 1, cap', done ++ [(L.take k).drop fr], by omega, rfl, by go_num, by go_num, by simp [HN.out], HNEXT.out, ?_, ?_, ?_⟩
          · have := HR1.out
            rw [List.map_append]
            have e : ([(L.take k).drop fr].map txt) = [Value.string (s.extract fr k)] := by
              simp only [List.map_cons, List.map_nil, txt]
              rw [Lib.extract_eq, ← HL.out, List.drop_take]
            rw [e]; exact this
          · intro i hi
            rcases HI1.out i hi with h | h
            · exact HNEW.out i h
            · have := HB.out.size; omega
          · exact keep_own HB.out (HNEW.out) HK1.out
        case measure => simp [intOf]; omega
      | false =>
        rw [hc] at hcb
        have hce : L[k] ≠ c := by simpa using hc
        have HNEXT := hid (HCUT.out.miss hlt hce)
        clear hc hce
        go_wp2_with fail
        go_roundw
        case rel => exact ⟨k + 1, fr, A, n, cap, done, by omega, rfl, rfl, by go_num, HN.out, HNEXT.out, HROW.out, HNEW.out, HB.out⟩
        case measure => simp [intOf]; omega
    · obtain rfl : k = L.length := by omega
      have hsl := HLS.out
      have HDONE := hid (HCUT.out.done rfl)
      go_wp2_with (at_builtin; refine wpList_append_row _ rfl _ _ 23 rfl 9 i0 (.string ⟨#[]⟩) 1 16 Tryz.underlying23 hi0 hz0 hz1 hz2 rfl (by decide) A n cap (done.map txt) rfl ?c0 (some ⟨wr.heap.size, 0, none⟩) 1 1 [.string (s.extract fr L.length)] rfl ?c1 ?c2 ?c3 ?c4 ?_)
      case c0 => exact HROW.out.alloc _
      case c1 => exact one_sl wr _ _
      case c2 => intro u hu; simp at hu; subst hu; rfl
      case c3 => unfold maxLen; omega
      case c4 => omega
      intro A' cap' w1 hrow1 hkeep1 hin1
      have HR1 := hid hrow1
      have HK1 := hid hkeep1
      have HI1 := hid hin1
      clear hrow1 hkeep1 hin1
      go_wp2_with fail
      go_ret
      have hlen : (cutA c [] L).length = n + 1 := by rw [HDONE.out]; simp [HN.out]
      have e : (cutA c [] L).map txt = done.map txt ++ [Value.string (s.extract fr L.length)] := by
        rw [HDONE.out, List.map_append]
        simp only [List.map_cons, List.map_nil, txt]
        rw [Lib.extract_eq, ← HL.out, List.take_of_length_le (by rw [List.length_drop]; omega)]
      rw [hlen, e]
      refine ⟨A', cap', rfl, HR1.out, ?_, keep_own HB.out (HNEW.out) HK1.out⟩
      intro i hi
      rcases HI1.out i hi with h | h
      · exact HNEW.out i h
      · have := HB.out.size; omega
end Go.Proofs.YthdmgighblhmhaaGreatDoor

/- The library's strconv.Itoa, in the walk's words. Conditions: its table of powers, which the row lists. -/
namespace Go.Proofs.YthdmgighblhmhaaGreatDoor
open Go.RowKit
set_option maxRecDepth 100000
theorem grown_below (w : World) (k : Nat) (os : Array Obj) : Below w.heap.size w (Sort.grow (w.drewN k) os) := by
  refine ⟨rfl, rfl, rfl, by simp [Sort.grow], fun i hi => ?_⟩
  show (w.heap ++ os)[i]? = _
  rw [Array.getElem?_append_left hi]
/-- strconv.Itoa of an int: a text. -/
theorem itoaS_any (n : Int) (h0 : -9223372036854775808 ≤ n) (h1 : n ≤ 9223372036854775807) (w : World) (hp : Pows w) :
    Calls Tryz.prog 80 #[.int .i64 n] w fun e w' => e = .returned (.string ⟨(Lib.itoa n).toArray⟩) ∧ Below w.heap.size w w' :=
  (Tryz.strconv_Itoa n h0 h1 w hp).mono fun e w' ⟨he, k, os, hw⟩ => ⟨he, by rw [hw]; exact grown_below w k os⟩
theorem itoa_ne (n : Int) : Lib.itoa n ≠ [] := by
  unfold Lib.itoa
  split
  · simp
  · rw [Lib.decDigits]; split <;> simp
end Go.Proofs.YthdmgighblhmhaaGreatDoor

/- What text is read with: strconv.Atoi, strings.Split, strings.CutSuffix; and code.Number, code.Numbers. Conditions: 'Desk': the library's tables and errors, which the row lists; no text is longer than 2^30 bytes. -/
namespace Go.Proofs.YthdmgighblhmhaaGreatDoor
open Go.RowKit
set_option maxRecDepth 100000

/-- What the library reads and prints with. -/
structure Desk (w : World) : Prop where
  pows : Pows w
  syn : ∃ ev, w.cell? ⟨6, 0, none⟩ = some ev ∧ (ev = .nilIface ∨ ∃ te pe, ev = .iface te pe)
  rng : ∃ ev, w.cell? ⟨7, 0, none⟩ = some ev ∧ (ev = .nilIface ∨ ∃ te pe, ev = .iface te pe)
  len : ∃ m : Int, w.cell? ⟨2, 0, none⟩ = some (.int .i64 m)
theorem Desk.new {w w' : World} (h : Desk w) (hb : Below w.heap.size w w') : Desk w' := by
  obtain ⟨hp, ⟨e1, h1, h1'⟩, ⟨e2, h2, h2'⟩, ⟨m, h3⟩⟩ := h
  exact ⟨hp.new (pows_lt hp) hb, ⟨e1, (hb.cell (p := ⟨6, 0, none⟩) (cell_lt h1)).trans h1, h1'⟩, ⟨e2, (hb.cell (p := ⟨7, 0, none⟩) (cell_lt h2)).trans h2, h2'⟩, ⟨m, (hb.cell (p := ⟨2, 0, none⟩) (cell_lt h3)).trans h3⟩⟩

/-- What Atoi hands back. -/
def AtoiGot (s : ByteArray) (w : World) (e : Ending) (w' : World) : Prop :=
  ∃ (v : Int) (er : Value), e = .returned (.tuple #[.int .i64 v, er]) ∧ Below w.heap.size w w' ∧ ((Lib.atoiAll s.data.toList = .ok v ∧ er = .nilIface) ∨ ((∀ u, Lib.atoiAll s.data.toList ≠ .ok u) ∧ ∃ T p, er = .iface T p))
theorem atoi_any (s : ByteArray) (hs : s.size ≤ 1073741824) (w : World) (h : Desk w) : Calls Tryz.prog 94 #[.string s] w (AtoiGot s w) := by
  obtain ⟨e1, h1, h1'⟩ := h.syn
  obtain ⟨e2, h2, h2'⟩ := h.rng
  cases ha : Lib.atoiAll s.data.toList with
  | ok v =>
    refine (Tryz.strconv_Atoi_ok s (by omega) v ha w).mono ?_
    rintro e w' ⟨rfl, hw⟩
    refine ⟨v, .nilIface, rfl, ?_, .inl ⟨ha, rfl⟩⟩
    rcases hw with rfl | ⟨t, rfl⟩
    · exact Below.refl _ _
    · exact Lib.bytesWorld_below _ _ _
  | «syntax» =>
    refine (Tryz.strconv_Atoi_syntax s (by omega) ha e1 w h1 h1').mono ?_
    rintro e w' ⟨N, rfl, _, _, hb⟩
    exact ⟨_, _, rfl, hb, .inr ⟨fun u hu => (by rw [ha] at hu; cases hu), _, _, rfl⟩⟩
  | range =>
    refine (Tryz.strconv_Atoi_range s (by omega) ha e2 w h2 h2').mono ?_
    rintro e w' ⟨N, rfl, _, _, hb⟩
    exact ⟨_, _, rfl, hb, .inr ⟨fun u hu => (by rw [ha] at hu; cases hu), _, _, rfl⟩⟩

/-- What Number hands back. -/
def NumGot (most : Int) (s : ByteArray) (w : World) (e : Ending) (w' : World) : Prop :=
  ∃ (v : Int) (b : Bool), e = .returned (.tuple #[.int .i64 v, .bool b]) ∧ Below w.heap.size w w' ∧ ((b = true ∧ 0 ≤ v ∧ numOf most s.data.toList = some v.toNat) ∨ (b = false ∧ numOf most s.data.toList = none))
theorem numOf_not {most : Int} {s : List UInt8} (h : ∀ u, Lib.atoiAll s ≠ .ok u) : numOf most s = none := by
  unfold numOf
  split
  · rename_i v hv; exact absurd hv (h v)
  · rfl
theorem numOf_ok {most v : Int} {s : List UInt8} (h : Lib.atoiAll s = .ok v) : numOf most s = if 0 ≤ v ∧ (s.length : Int) ≤ most ∧ Lib.itoa v = s then some v.toNat else none := by
  unfold numOf
  rw [h]

set_option maxHeartbeats 2000000 in
theorem number_any (s : ByteArray) (most : Int) (hs : s.size ≤ 1073741824) (w : World) (h : Desk w) : Calls Tryz.prog 79 #[.string s, .int .i64 most] w (NumGot most s w) := by
  have HAT := hid (atoi_any s hs w h)
  have HIT : Hid (∀ (v : Int) (w' : World), -9223372036854775808 ≤ v → v ≤ 9223372036854775807 → Below w.heap.size w w' → Calls Tryz.prog 80 #[.int .i64 v] w' fun e w'' => e = .returned (.string ⟨(Lib.itoa v).toArray⟩) ∧ Below w'.heap.size w' w'') := fun v w' h0 h1 hb => itoaS_any v h0 h1 w' (h.new hb).pows
  clear h
  go_enter Tryz.func79, Tryz.ntmps79
  go_upto_region 2 with (go_at_call 94; refine HAT.out.mono ?_; rintro e w1 ⟨v, er, rfl, hb1, hor⟩; have HB1 := hid hb1; have HOR := hid hor; clear hb1 hor HAT)
  rcases HOR.out with ⟨hok, rfl⟩ | ⟨hno, T, p, rfl⟩
  · have hbd := Lib.atoiAll_bounds hok
    have HNUM := hid (numOf_ok (most := most) hok)
    have HSZ := hid (Lib.size_eq s)
    clear HOR hok
    by_cases c1 : 0 ≤ v
    · by_cases c2 : (s.size : Int) ≤ most
      · go_wp2_with (go_at_call 80; refine (HIT.out v _ (by omega) (by omega) HB1.out).mono ?_; rintro e w2 ⟨rfl, hb2⟩; have HB2 := hid (HB1.out.trans (hb2.mono HB1.out.size)); clear hb2)
        go_ret2
        have hl : s.toList = s.data.toList := Lib.toList_data s
        rw [hl]
        by_cases c3 : Lib.itoa v = s.data.toList
        · have hb : (Lib.itoa v == s.data.toList) = true := beq_iff_eq.2 c3
          exact ⟨v, _, rfl, HB2.out, .inl ⟨hb, c1, by rw [HNUM.out, if_pos ⟨c1, by rw [← HSZ.out]; exact c2, c3⟩]⟩⟩
        · have hb : (Lib.itoa v == s.data.toList) = false := beq_eq_false_iff_ne.2 c3
          exact ⟨v, _, rfl, HB2.out, .inr ⟨hb, by rw [HNUM.out, if_neg (fun h => c3 h.2.2)]⟩⟩
      · go_wp2_with fail
        go_ret2
        exact ⟨v, false, rfl, HB1.out, .inr ⟨rfl, by rw [HNUM.out, if_neg (by rw [← HSZ.out]; omega)]⟩⟩
    · go_wp2_with fail
      go_ret2
      exact ⟨v, false, rfl, HB1.out, .inr ⟨rfl, by rw [HNUM.out, if_neg (by omega)]⟩⟩
  · go_wp2_with fail
    go_ret2
    exact ⟨v, false, rfl, HB1.out, .inr ⟨rfl, numOf_not hno⟩⟩
theorem ints_append (a b : List Int) : ints (a ++ b) = ints a ++ ints b := by unfold ints; rw [List.map_append]
/-- What Numbers hands back. -/
def NumsGot (most : Int) (ws : List ByteArray) (w : World) (e : Ending) (w' : World) : Prop :=
  Below w.heap.size w w' ∧ ((∃ (ns : List Nat) (A : Option Addr) (n c : Nat), numsOf most (ws.map fun s => s.data.toList) = some ns ∧ ns.length = n ∧ e = .returned (.tuple #[.slice A n c, .bool true]) ∧ Row w' 3 1 A n c (ints (ns.map Int.ofNat)) ∧ ∀ i, InA A i → w.heap.size ≤ i) ∨
    (numsOf most (ws.map fun s => s.data.toList) = none ∧ e = .returned (.tuple #[.slice none 0 0, .bool false])))
theorem numsOf_at {most : Int} {ws : List ByteArray} {j : Nat} {s : ByteArray} (h : ws[j]? = some s) {ns : List Nat} (hn : numsOf most ((ws.take j).map fun s => s.data.toList) = some ns) :
    (∀ n, numOf most s.data.toList = some n → numsOf most ((ws.take (j + 1)).map fun s => s.data.toList) = some (ns ++ [n])) ∧ (numOf most s.data.toList = none → numsOf most (ws.map fun s => s.data.toList) = none) := by
  obtain ⟨h1, h2⟩ := List.getElem?_eq_some_iff.1 h
  refine ⟨fun n hm => ?_, fun hm => ?_⟩
  · rw [List.take_succ_eq_append_getElem h1, List.map_append, List.map_cons, List.map_nil, numsOf_snoc hn, h2, hm]; rfl
  · have e : ws.map (fun s => s.data.toList) = (ws.take j).map (fun s => s.data.toList) ++ s.data.toList :: (ws.drop (j + 1)).map (fun s => s.data.toList) := by
      rw [← List.map_cons (f := fun s : ByteArray => s.data.toList), ← List.map_append]
      congr 1
      rw [← h2, List.getElem_cons_drop, List.take_append_drop]
    rw [e]; exact numsOf_bad hm

set_option maxHeartbeats 4000000 in
theorem numbers_any (ws : List ByteArray) (A : Option Addr) (n c : Nat) (most : Int) (hn : ws.length = n) (hn1 : n ≤ 1073741824) (hs : ∀ s ∈ ws, s.size ≤ 1073741824) (w : World) (h : Desk w) (hsl : Sl w A 1 n (ws.map Value.string)) :
    Calls Tryz.prog 55 #[.slice A n c, .int .i64 most] w (NumsGot most ws w) := by
  obtain ⟨i0, hi0, hz0, hz1, hz2⟩ := info_parts Tryz.infoInt
  have HNUM : Hid (∀ (s : ByteArray) (w' : World), s ∈ ws → Below w.heap.size w w' → Calls Tryz.prog 79 #[.string s, .int .i64 most] w' (NumGot most s w')) := fun s w' hm hb => number_any s most (hs s hm) w' (h.new hb)
  have HSL := hid hsl
  have HN := hid hn
  clear h hsl hs hn
  go_enter Tryz.func55, Tryz.ntmps55
  go_wp2_with fail
  go_loopw [6, 13] (fun v6 v13 wr => ∃ (j : Nat) (B : Option Addr) (d : Nat) (ns : List Nat), j ≤ n ∧ v6 = .slice B j d ∧ v13 = .int .i64 j ∧ ns.length = j ∧ numsOf most ((ws.take j).map fun s => s.data.toList) = some ns ∧ Row wr 3 1 B j d (ints (ns.map Int.ofNat)) ∧ (∀ i, InA B i → w.heap.size ≤ i) ∧ Below w.heap.size w wr) (fun _ v13 _ => n - (intOf v13).toNat)
  case atStart => exact ⟨0, none, 0, [], by omega, rfl, rfl, rfl, rfl, Row.nil _ _ _, fun i hi => by simp [InA] at hi, Below.refl _ _⟩
  case round =>
    obtain ⟨j, B, d, ns, hj, rfl, rfl, hnl, hns, hrow, hnew, hb⟩ := hrel
    have HNS := hid hns
    have HROW := hid hrow
    have HNEW := hid hnew
    have HB := hid hb
    have HNL := hid hnl
    clear hns hrow hnew hb hnl
    by_cases hjn : j < n
    · have hjl : j < ws.length := by rw [HN.out]; exact hjn
      obtain ⟨b, off, rfl, hlb, hx⟩ := HSL.out.2 (by omega)
      have hget := List.getElem?_eq_getElem hjl
      have hk : wr.cell? ⟨b, off + j, none⟩ = some (.string ws[j]) := (HB.out.cell (p := ⟨b, off + j, none⟩) hlb).trans (hx j _ (by rw [List.getElem?_map, hget]; rfl))
      have hmem := List.getElem_mem hjl
      generalize ws[j] = s at hget hk hmem
      have HNB := hid (HNUM.out s wr hmem HB.out)
      have HAT := hid (numsOf_at hget HNS.out)
      clear hget hx hmem
      go_wp2_with fail
      refine HNB.out.mono ?_
      rintro e w2 ⟨v, b2, rfl, hb2, hor⟩
      have HB2 := hid hb2
      have HBW := hid (HB.out.trans (hb2.mono HB.out.size))
      have HR2 := hid (HROW.out.new hb2)
      clear hb2 HNB
      rcases hor with ⟨rfl, h0, hnum⟩ | ⟨rfl, hnum⟩
      · obtain ⟨N, rfl⟩ : ∃ N : Nat, v = N := ⟨v.toNat, by omega⟩
        rw [Int.toNat_natCast] at hnum
        have HNX := hid (HAT.out.1 N hnum)
        clear hnum HAT h0
        go_wp2_with (at_builtin; refine wpList_append_row _ rfl _ _ 63 rfl 3 i0 (.int .i64 0) 1 8 Tryz.underlying63 hi0 hz0 hz1 hz2 rfl (by decide) B j d (ints (ns.map Int.ofNat)) rfl ?c0 (some ⟨w2.heap.size, 0, none⟩) 1 1 [.int .i64 N] rfl ?c1 ?c2 ?c3 ?c4 ?_)
        case c0 => exact HR2.out.alloc _
        case c1 => exact one_sl w2 _ _
        case c2 => intro u hu; simp at hu; subst hu; rfl
        case c3 => unfold maxLen; omega
        case c4 => omega
        intro B' d' w3 hr3 hk3 hi3
        have HR3 := hid hr3
        have HK3 := hid hk3
        have HI3 := hid hi3
        clear hr3 hk3 hi3
        go_wp2_with fail
        go_roundw
        case rel =>
          refine ⟨j + 1, B', d', ns ++ [N], by omega, rfl, by go_num, by simp [HNL.out], HNX.out, ?_, ?_, keep_own HBW.out HNEW.out HK3.out⟩
          · rw [List.map_append, ints_append]; exact HR3.out
          · intro i hi
            rcases HI3.out i hi with h | h
            · exact HNEW.out i h
            · have := HBW.out.size; omega
        case measure => simp [intOf]; omega
      · have HNX := hid (HAT.out.2 hnum)
        clear hnum HAT
        go_wp2_with fail
        go_ret2
        exact ⟨HBW.out, .inr ⟨HNX.out, rfl⟩⟩
    · obtain rfl : j = n := by omega
      have HFIN : Hid (numsOf most (ws.map fun s => s.data.toList) = some ns) := by
        have := HNS.out
        rw [← HN.out, List.take_length] at this
        exact this
      go_wp2_with fail
      go_ret2
      exact ⟨HB.out, .inl ⟨ns, B, _, d, HFIN.out, HNL.out, rfl, HROW.out, HNEW.out⟩⟩
end Go.Proofs.YthdmgighblhmhaaGreatDoor

/- Plain: the lines of a text, each with its end, as strings.Lines hands them over. No program is walked. Conditions: none. -/
namespace Go.Proofs.YthdmgighblhmhaaGreatDoor

/-- The lines of a text, each with its end; behind what has been read. -/
def linesA : List UInt8 → List UInt8 → List (List UInt8)
  | acc, [] => if acc = [] then [] else [acc]
  | acc, x :: r => if x = 10 then (acc ++ [10]) :: linesA [] r else linesA (acc ++ [x]) r
def linesOf (l : List UInt8) : List (List UInt8) := linesA [] l

theorem linesA_pass : ∀ (t acc r : List UInt8), (10 : UInt8) ∉ t → linesA acc (t ++ r) = linesA (acc ++ t) r
  | [], acc, r, _ => by simp
  | x :: t, acc, r, h => by
    have hx : x ≠ 10 := fun e => h (by simp [e])
    rw [List.cons_append, linesA, if_neg hx, linesA_pass t _ r (fun e => h (by simp [e]))]
    simp
theorem linesOf_line (t r : List UInt8) (h : (10 : UInt8) ∉ t) : linesOf (t ++ 10 :: r) = (t ++ [10]) :: linesOf r := by
  unfold linesOf
  rw [linesA_pass t [] _ h, linesA, if_pos rfl]; simp
theorem linesOf_last (t : List UInt8) (h : (10 : UInt8) ∉ t) (h0 : t ≠ []) : linesOf t = [t] := by
  have := linesA_pass t [] [] h
  rw [List.append_nil, List.nil_append] at this
  unfold linesOf
  rw [this, linesA, if_neg h0]
theorem index_miss : ∀ (l : List UInt8) (c : UInt8), Lib.indexByte l c = -1 → c ∉ l
  | [], _, _ => by simp
  | b :: l, c, h => by
    unfold Lib.indexByte at h
    split at h
    · simp at h
    · rename_i hb
      have hg := Lib.indexByte_ge l c
      split at h
      · rename_i h1
        have := index_miss l c (by simpa using h1)
        simp only [List.mem_cons, not_or]
        exact ⟨fun e => hb (by simp [e]), this⟩
      · rename_i h1
        exact absurd (show Lib.indexByte l c = -1 - 1 by omega) (by omega)
theorem index_hit : ∀ (l : List UInt8) (c : UInt8) (k : Nat), Lib.indexByte l c = k → l = l.take k ++ c :: l.drop (k + 1) ∧ c ∉ l.take k ∧ k < l.length
  | [], c, k, h => by
    have h1 : Lib.indexByte [] c = -1 := rfl
    omega
  | b :: l, c, k, h => by
    unfold Lib.indexByte at h
    split at h
    · rename_i hb
      obtain rfl : k = 0 := by omega
      have : b = c := by simpa using hb
      subst this
      simp
    · rename_i hb
      have hg := Lib.indexByte_ge l c
      split at h
      · omega
      · rename_i h1
        have h2 : Lib.indexByte l c ≠ -1 := by simpa using h1
        obtain ⟨j, rfl⟩ : ∃ j, k = j + 1 := ⟨k - 1, by omega⟩
        obtain ⟨e1, e2, e3⟩ := index_hit l c j (by omega)
        refine ⟨?_, ?_, by simp; omega⟩
        · rw [List.take_succ_cons, List.drop_succ_cons, List.cons_append, ← e1]
        · rw [List.take_succ_cons, List.mem_cons, not_or]
          exact ⟨fun e => hb (by simp [e]), e2⟩
/-- One step of the iterator: the first line, and the rest. -/
theorem linesOf_hit (l : List UInt8) (k : Nat) (h : Lib.indexByte l 10 = k) : linesOf l = l.take (k + 1) :: linesOf (l.drop (k + 1)) ∧ k < l.length := by
  obtain ⟨e1, e2, e3⟩ := index_hit l 10 k h
  refine ⟨?_, e3⟩
  have e4 : l.take (k + 1) = l.take k ++ [10] := by
    conv => lhs; rw [e1]
    have h5 : (l.take k).length = k := by rw [List.length_take]; omega
    have h6 := List.take_left' (l₂ := l.drop (k + 1)) (show (l.take k ++ [10]).length = k + 1 by simp only [List.length_append, List.length_singleton]; omega)
    rw [List.append_assoc] at h6
    exact h6
  rw [e4]
  conv => lhs; rw [e1]
  exact linesOf_line _ _ e2
theorem linesOf_miss (l : List UInt8) (h : Lib.indexByte l 10 = -1) (h0 : l ≠ []) : linesOf l = [l] := linesOf_last l (index_miss l 10 h) h0
end Go.Proofs.YthdmgighblhmhaaGreatDoor

/- strings.Split at a blank, strings.CutSuffix at a line's end, in the words of 'cutA'. Conditions: 'Desk'; no text is longer than 2^30 bytes. -/
namespace Go.Proofs.YthdmgighblhmhaaGreatDoor
open Go.RowKit
set_option maxRecDepth 100000

theorem cutA_hit {l : List UInt8} {c : UInt8} {k : Nat} (h : Lib.indexByte l c = k) : cutA c [] l = l.take k :: cutA c [] (l.drop (k + 1)) := by
  obtain ⟨h1, h2, _⟩ := index_hit l c k h
  conv => lhs; rw [h1]
  rw [cutA_pass c _ [] _ h2, List.nil_append, cutA, if_pos rfl]
theorem cutA_miss {l : List UInt8} {c : UInt8} (h : Lib.indexByte l c = -1) : cutA c [] l = [l] := by
  have := cutA_pass c l [] [] (index_miss l c h)
  rw [List.append_nil, List.nil_append] at this
  rw [this]; rfl
theorem split_cut (c : UInt8) : ∀ (N : Nat) (s : ByteArray), s.size ≤ N → (Lib.splitB ⟨#[c]⟩ 0 (Lib.countB s ⟨#[c]⟩) s).map (fun s => s.data.toList) = cutA c [] s.data.toList := by
  intro N
  induction N with
  | zero =>
    intro s hs
    have hi : Lib.indexB s ⟨#[c]⟩ = Lib.indexByte s.data.toList c := Lib.index_one _ _
    have he : s.data.toList = [] := List.eq_nil_of_length_eq_zero (by rw [← Lib.size_eq]; omega)
    have hm : Lib.indexB s ⟨#[c]⟩ = -1 := by rw [hi, he]; rfl
    rw [Lib.splitB_miss _ _ _ _ hm, cutA_miss (by rw [← hi]; exact hm)]; rfl
  | succ N ih =>
    intro s hs
    have hi : Lib.indexB s ⟨#[c]⟩ = Lib.indexByte s.data.toList c := Lib.index_one _ _
    have hge := Lib.indexByte_ge s.data.toList c
    by_cases hm : Lib.indexB s ⟨#[c]⟩ = -1
    · rw [Lib.splitB_miss _ _ _ _ hm, cutA_miss (by rw [← hi]; exact hm)]; rfl
    · obtain ⟨k, hk⟩ : ∃ k : Nat, Lib.indexByte s.data.toList c = k := ⟨(Lib.indexByte s.data.toList c).toNat, by omega⟩
      have hk2 : Lib.indexB s ⟨#[c]⟩ = k := hi.trans hk
      have hkl := (index_hit _ _ _ hk).2.2
      rw [← Lib.size_eq] at hkl
      have h1 : (⟨#[c]⟩ : ByteArray).size = 1 := rfl
      rw [Lib.countB_hit s ⟨#[c]⟩ k (Nat.le_refl 1) hk2, Nat.add_comm, Lib.splitB_hit _ _ _ _ _ hk2, List.map_cons, h1, ih _ (by simp; omega), cutA_hit hk, Lib.extract_eq, Lib.extract_eq]
      congr 2
      rw [List.take_of_length_le (by rw [List.length_drop, ← Lib.size_eq]; omega)]
theorem cutA_le (c : UInt8) : ∀ (l acc : List UInt8), ∀ t ∈ cutA c acc l, t.length ≤ acc.length + l.length
  | [], acc, t, h => by
    simp [cutA] at h; subst h; simp
  | x :: l, acc, t, h => by
    unfold cutA at h
    split at h
    · rcases List.mem_cons.1 h with rfl | h
      · simp
      · have := cutA_le c l [] t h
        simp at this ⊢; omega
    · have := cutA_le c l _ t h
      simp at this ⊢; omega

/-- What Split at a blank hands back. -/
def SplitGot (s : ByteArray) (w : World) (e : Ending) (w' : World) : Prop :=
  ∃ (ws : List ByteArray) (n : Nat), ws.length = n ∧ ws.map (fun s => s.data.toList) = cutA 32 [] s.data.toList ∧ (∀ x ∈ ws, x.size ≤ s.size) ∧ n ≤ s.size + 1 ∧ e = .returned (.slice (some ⟨w.heap.size, 0, none⟩) n n) ∧ w' = w.alloc (.cells (ws.map Value.string).toArray 9)
theorem split_any (s : ByteArray) (hs : s.size ≤ 1073741824) (w : World) (h : Desk w) : Calls Tryz.prog 53 #[.string s, .string ⟨#[32]⟩] w (SplitGot s w) := by
  obtain ⟨m, hm⟩ := h.len
  have hc := split_cut 32 s.size s (Nat.le_refl _)
  have hl : (Lib.splitB ⟨#[32]⟩ 0 (Lib.countB s ⟨#[32]⟩) s).length = (cutA 32 [] s.data.toList).length := by rw [← hc, List.length_map]
  rw [cutA_len] at hl
  have hall := Lib.splitB_all ⟨#[32]⟩ (by decide) 0 _ s rfl
  refine (Tryz.strings_Split s ⟨#[32]⟩ m w (by omega) hm (by decide)).mono ?_
  rintro e w' ⟨rfl, rfl⟩
  refine ⟨_, _, hall, hc, fun x hx => ?_, ?_, rfl, rfl⟩
  · have := cutA_le 32 s.data.toList [] x.data.toList (by rw [← hc]; exact List.mem_map_of_mem (f := fun s : ByteArray => s.data.toList) hx)
    rw [Lib.size_eq, Lib.size_eq]; simpa using this
  · have h2 := List.count_le_length (a := (32 : UInt8)) (l := s.data.toList)
    rw [← Lib.size_eq] at h2
    omega
/-- The row that Split makes. -/
theorem split_sl {w : World} {ws : List ByteArray} {n : Nat} (hn : ws.length = n) : Sl (w.alloc (.cells (ws.map Value.string).toArray 9)) (some ⟨w.heap.size, 0, none⟩) 1 n (ws.map Value.string) := by
  refine ⟨by rw [List.length_map, hn]; omega, fun _ => ⟨w.heap.size, 0, rfl, by simp, fun j u hu => ?_⟩⟩
  rw [Nat.zero_add, blk_cell (heap_alloc_new w _)]
  simpa using hu

/-- A line's end is cut off. -/
theorem cut_line (t : List UInt8) : Lib.trimSuffix (t ++ [10]) [10] = t ∧ Lib.hasSuffix (t ++ [10]) [10] = true := by
  have h : Lib.hasSuffix (t ++ [10]) [10] = true := by
    unfold Lib.hasSuffix
    rw [List.isSuffixOf_iff_suffix]
    exact List.suffix_append _ _
  refine ⟨?_, h⟩
  unfold Lib.trimSuffix
  rw [if_pos h]; simp
theorem cut_last (t : List UInt8) (h : (10 : UInt8) ∉ t) : Lib.trimSuffix t [10] = t ∧ Lib.hasSuffix t [10] = false := by
  have h2 : Lib.hasSuffix t [10] = false := by
    unfold Lib.hasSuffix
    rw [Bool.eq_false_iff]
    intro e
    rw [List.isSuffixOf_iff_suffix] at e
    exact h (e.subset (by simp))
  refine ⟨?_, h2⟩
  unfold Lib.trimSuffix
  rw [h2]; simp
end Go.Proofs.YthdmgighblhmhaaGreatDoor

/- Plain: an op's line read: which lines are an op's, and of which. No program is walked. Conditions: none. -/
namespace Go.Proofs.YthdmgighblhmhaaGreatDoor

theorem nDigits_le : ∀ (k u : Nat), u < 10 ^ (k + 1) → Lib.nDigits u ≤ k + 1
  | 0, u, h => by rw [Lib.nDigits_small (by omega)]; omega
  | k + 1, u, h => by
    by_cases h1 : u < 10
    · rw [Lib.nDigits_small h1]; omega
    · rw [Lib.nDigits_big h1]
      have := nDigits_le k (u / 10) (by rw [Nat.pow_succ] at h; omega)
      omega
theorem itoa_le {n : Int} {k : Nat} (h0 : 0 ≤ n) (h : n < 10 ^ (k + 1)) : (Lib.itoa n).length ≤ k + 1 := by
  obtain ⟨u, rfl⟩ : ∃ u : Nat, n = u := ⟨n.toNat, by omega⟩
  rw [itoa_nat, Lib.decDigits_length]
  have h2 : ((10 ^ (k + 1) : Nat) : Int) = 10 ^ (k + 1) := by simp
  exact nDigits_le k u (by omega)
theorem numOf_itoa {n : Int} {k : Nat} (h0 : 0 ≤ n) (h : n < 10 ^ (k + 1)) (hk : k < 18) : numOf ((k + 1 : Nat) : Int) (Lib.itoa n) = some n.toNat := by
  have h1 := itoa_le h0 h
  exact (numOf_some (by omega)).2 ⟨by rw [show ((n.toNat : Nat) : Int) = n by omega], by omega⟩
theorem numsOf_itoa {k : Nat} (hk : k < 18) : ∀ {l : List Int}, (∀ n ∈ l, 0 ≤ n ∧ n < 10 ^ (k + 1)) → numsOf ((k + 1 : Nat) : Int) (l.map Lib.itoa) = some (l.map Int.toNat)
  | [], _ => rfl
  | n :: l, h => by
    rw [List.map_cons]
    unfold numsOf
    rw [numOf_itoa (h n (by simp)).1 (h n (by simp)).2 hk]
    simp only []
    rw [numsOf_itoa hk (fun m hm => h m (by simp [hm]))]; rfl
theorem itoa_no32 (n : Int) : (32 : UInt8) ∉ Lib.itoa n := fun h => by have := itoa_mem n h; simp at this
theorem cutA_nums : ∀ (l : List Int) (acc : List UInt8), cutA 32 acc (l.flatMap numT) = acc :: l.map Lib.itoa
  | [], acc => rfl
  | n :: l, acc => by
    rw [List.flatMap_cons]
    unfold numT
    rw [List.cons_append, cutA, if_pos rfl, cutA_pass 32 _ [] _ (itoa_no32 n), List.nil_append]
    show acc :: cutA 32 (Lib.itoa n) (l.flatMap numT) = _
    rw [cutA_nums l, List.map_cons]
theorem cutA_words {w : List UInt8} (hw : (32 : UInt8) ∉ w) (l : List Int) : cutA 32 [] (w ++ l.flatMap numT) = w :: l.map Lib.itoa := by
  rw [cutA_pass 32 w [] _ hw, List.nil_append, cutA_nums]
theorem cutA_join (c : UInt8) : ∀ (l acc w : List UInt8) (ws : List (List UInt8)), cutA c acc l = w :: ws → acc ++ l = w ++ ws.flatMap (fun t => c :: t)
  | [], acc, w, ws, h => by
    unfold cutA at h
    injection h with h1 h2
    subst h1 h2; simp
  | x :: l, acc, w, ws, h => by
    unfold cutA at h
    split at h
    · rename_i hx
      injection h with h1 h2
      subst h1
      cases ws with
      | nil => exact absurd h2 (by cases l with
        | nil => simp [cutA]
        | cons y l =>
          intro e
          have := cutA_len c (y :: l) []
          rw [e] at this; simp at this)
      | cons v ws =>
        have := cutA_join c l [] v ws h2
        rw [List.nil_append] at this
        rw [List.flatMap_cons, this, hx]; simp
    · have := cutA_join c l _ w ws h
      rw [← this]; simp
theorem cutA_cons (c : UInt8) (l acc : List UInt8) : ∃ w ws, cutA c acc l = w :: ws := by
  have := cutA_len c l acc
  cases h : cutA c acc l with
  | nil => rw [h] at this; simp at this
  | cons w ws => exact ⟨w, ws, rfl⟩
theorem name_no32 (k : Nat) : (32 : UInt8) ∉ nameOf k := fun h => by have := name_mem _ _ h; simp at this
theorem name_inj {i j : Nat} (hi : 1 ≤ i ∧ i ≤ 11) (hj : 1 ≤ j ∧ j ≤ 11) (h : nameOf i = nameOf j) : i = j := by
  have H : ∀ a ∈ List.range 12, ∀ b ∈ List.range 12, 1 ≤ a → 1 ≤ b → nameOf a = nameOf b → a = b := by decide
  exact H i (List.mem_range.2 (by omega)) j (List.mem_range.2 (by omega)) hi.1 hj.1 h

/-- An op such as a line may say it. -/
structure WfOp (o : Op) : Prop where
  what : 1 ≤ o.what ∧ o.what ≤ 11
  a : 0 ≤ o.a ∧ o.a < 10 ^ 4
  b : 0 ≤ o.b ∧ o.b < 10 ^ 4
  noA : formA o.what.toNat = false → o.a = 0
  noB : formB o.what.toNat = false → o.b = 0
/-- How many numbers stand behind a name. -/
def manyOf (k : Nat) : Nat := (if formA k then 1 else 0) + (if formB k then 1 else 0)
/-- The op of a name and its numbers. -/
def opOf (k : Nat) (ns : List Nat) : Op := if formA k then ⟨k, ns.getD 0 0, ns.getD 1 0⟩ else if formB k then ⟨k, 0, ns.getD 0 0⟩ else ⟨k, 0, 0⟩
theorem formB_of {k : Nat} (h : formA k = true) : formB k = true := by
  unfold formA at h; unfold formB; simp at h ⊢; omega
theorem opOf_fields {k : Nat} {ns : List Nat} (h : ns.length = manyOf k) : fieldsOf (opOf k ns) = ns.map Int.ofNat := by
  unfold manyOf at h
  unfold fieldsOf opOf
  cases ha : formA k with
  | true =>
    have hb := formB_of ha
    rw [ha, hb] at h
    match ns, h with
    | [x, y], _ => simp [ha, hb]
  | false =>
    cases hb : formB k with
    | true =>
      rw [ha, hb] at h
      match ns, h with
      | [x], _ => simp [ha, hb]
    | false =>
      rw [ha, hb] at h
      match ns, h with
      | [], _ => simp [ha, hb]
theorem opOf_what (k : Nat) (ns : List Nat) : (opOf k ns).what = k := by
  unfold opOf; split
  · rfl
  · split <;> rfl
theorem opOf_wf {k : Nat} {ns : List Nat} (hk : 1 ≤ k ∧ k ≤ 11) (h : ns.length = manyOf k) (hn : ∀ n ∈ ns, n < 10 ^ 4) : WfOp (opOf k ns) := by
  have hw := opOf_what k ns
  unfold manyOf at h
  cases ha : formA k with
  | true =>
    have hb := formB_of ha
    rw [ha, hb] at h
    match ns, h with
    | [x, y], _ =>
      have h1 := hn x (by simp)
      have h2 := hn y (by simp)
      refine ⟨by rw [hw]; omega, ?_, ?_, ?_, ?_⟩ <;> simp [opOf, ha, hb] <;> omega
  | false =>
    cases hb : formB k with
    | true =>
      rw [ha, hb] at h
      match ns, h with
      | [x], _ =>
        have h1 := hn x (by simp)
        refine ⟨by rw [hw]; omega, ?_, ?_, ?_, ?_⟩ <;> simp [opOf, ha, hb] <;> omega
    | false =>
      refine ⟨by rw [hw]; omega, ?_, ?_, ?_, ?_⟩ <;> simp [opOf, ha, hb]
theorem op_wf {o : Op} (h : WfOp o) : opOf o.what.toNat ((fieldsOf o).map Int.toNat) = o ∧ (fieldsOf o).length = manyOf o.what.toNat ∧ ∀ n ∈ fieldsOf o, 0 ≤ n ∧ n < 10 ^ 4 := by
  obtain ⟨⟨h1, h2⟩, h3, h4, h5, h6⟩ := h
  obtain ⟨what, a, b⟩ := o
  simp only [] at *
  have hw : ((what.toNat : Nat) : Int) = what := by omega
  unfold opOf manyOf fieldsOf
  cases ha : formA what.toNat with
  | true =>
    have hb := formB_of ha
    simp [hb, hw]; omega
  | false =>
    cases hb : formB what.toNat with
    | true => simp [hw, h5 ha]; omega
    | false => simp [hw, h5 ha, h6 hb]

/-- A line is an op's. -/
theorem read_yes {s w : List UInt8} {ws : List (List UInt8)} {k : Nat} {ns : List Nat} (hc : cutA 32 [] s = w :: ws) (hk : 1 ≤ k ∧ k ≤ 11) (hw : nameOf k = w) (hn : numsOf 4 ws = some ns) (hl : ns.length = manyOf k) :
    WfOp (opOf k ns) ∧ opLine (opOf k ns) = s := by
  obtain ⟨h1, h2⟩ := (numsOf_some (by decide)).1 hn
  refine ⟨opOf_wf hk hl fun n hm => ?_, ?_⟩
  · have := h2 (Lib.itoa (n : Int)) (by rw [h1]; exact List.mem_map_of_mem (f := fun n : Nat => Lib.itoa (n : Int)) hm)
    rw [itoa_nat] at this
    exact num_lt (by omega)
  · have h3 := cutA_join 32 s [] w ws hc
    rw [List.nil_append] at h3
    unfold opLine
    rw [opOf_fields hl, opOf_what, Int.toNat_natCast, hw, h3, h1]
    congr 1
    rw [List.flatMap_map, List.flatMap_map]
    rfl
/-- What an op's line is cut into. -/
theorem read_cut {o : Op} : cutA 32 [] (opLine o) = nameOf o.what.toNat :: (fieldsOf o).map Lib.itoa := cutA_words (name_no32 _) _
theorem read_nums {o : Op} (h : WfOp o) : numsOf 4 ((fieldsOf o).map Lib.itoa) = some ((fieldsOf o).map Int.toNat) := numsOf_itoa (k := 3) (by decide) (op_wf h).2.2
/-- Two ops with one line are one. -/
theorem op_inj {o o' : Op} (h : WfOp o) (h' : WfOp o') (e : opLine o = opLine o') : o = o' := by
  have h1 := read_cut (o := o)
  rw [e, read_cut] at h1
  injection h1 with h2 h3
  have hw := name_inj (i := o'.what.toNat) (j := o.what.toNat) (by have := h'.what; omega) (by have := h.what; omega) h2
  have h4 := read_nums h
  rw [← h3, read_nums h'] at h4
  injection h4 with h4
  rw [← (op_wf h).1, ← (op_wf h').1, hw, h4]
end Go.Proofs.YthdmgighblhmhaaGreatDoor
