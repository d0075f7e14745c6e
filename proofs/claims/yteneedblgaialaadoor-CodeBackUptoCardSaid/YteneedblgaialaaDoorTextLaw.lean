/- Plain: code as text, a line an op, and a text cut at a byte. No program is walked. Conditions: none. -/
import Derived.Test.YteneedblgaialaaDoorCodeW
import Derived.Lib.ItoaNum
import Derived.Lib.Strings
namespace Go.Proofs.YteneedblgaialaaDoor

/-- The name of an op in its line. -/
def nameOf : Nat → List UInt8
  | 1 => [115, 101, 116]
  | 2 => [99, 111, 112, 121]
  | 3 => [97, 100, 100]
  | 4 => [115, 117, 98]
  | 5 => [109, 117, 108]
  | 6 => [122, 101, 114, 111]
  | 7 => [106, 117, 109, 112]
  | 8 => [115, 101, 110, 100]
  | 9 => [116, 97, 107, 101]
  | 10 => [114, 101, 115, 116]
  | 11 => [102, 97, 105, 108]
  | _ => []
/-- The numbers that stand in an op's line. -/
def fieldsOf (o : Op) : List Int := (if formA o.what.toNat then [o.a] else []) ++ (if formB o.what.toNat then [o.b] else [])
/-- A number as it stands in a line: a blank ahead of it. -/
def numT (n : Int) : List UInt8 := 32 :: Lib.itoa n
/-- An op's line without its end. -/
def opLine (o : Op) : List UInt8 := nameOf o.what.toNat ++ (fieldsOf o).flatMap numT
def opText (o : Op) : List UInt8 := opLine o ++ [10]
def codeText (l : List Op) : List UInt8 := l.flatMap opText

/-- A text cut at each byte c, behind what has been read. -/
def cutA (c : UInt8) : List UInt8 → List UInt8 → List (List UInt8)
  | acc, [] => [acc]
  | acc, x :: r => if x = c then acc :: cutA c [] r else cutA c (acc ++ [x]) r

theorem cutA_len (c : UInt8) : ∀ (l acc : List UInt8), (cutA c acc l).length = l.count c + 1
  | [], _ => rfl
  | x :: r, acc => by
    unfold cutA
    split
    · rename_i h
      subst h
      rw [List.length_cons, cutA_len x r, List.count_cons_self]
    · rename_i h
      rw [cutA_len c r, List.count_cons_of_ne h]
theorem cutA_pass (c : UInt8) : ∀ (t acc r : List UInt8), c ∉ t → cutA c acc (t ++ r) = cutA c (acc ++ t) r
  | [], acc, r, _ => by simp
  | x :: t, acc, r, h => by
    have hx : x ≠ c := fun e => h (by simp [e])
    rw [List.cons_append, cutA, if_neg hx, cutA_pass c t _ r (fun e => h (by simp [e]))]
    simp
theorem cutA_line (c : UInt8) (t : List UInt8) (h : c ∉ t) : cutA c [] (t ++ [c]) = [t, []] := by
  rw [cutA_pass c t [] [c] h, cutA, if_pos rfl]; simp [cutA]

theorem digit_mem : ∀ (u : Nat) (x : UInt8), x ∈ Lib.decDigits u → 48 ≤ x.toNat ∧ x.toNat ≤ 57 := by
  intro u
  induction u using Nat.strongRecOn with
  | _ u ih =>
    intro x hx
    rw [Lib.decDigits] at hx
    split at hx
    · simp at hx; subst hx; simp; omega
    · rename_i h
      rw [List.mem_append] at hx
      rcases hx with hx | hx
      · exact ih (u / 10) (by omega) x hx
      · simp at hx; subst hx; simp; omega
theorem itoa_mem (n : Int) {x : UInt8} (hx : x ∈ Lib.itoa n) : 45 ≤ x.toNat ∧ x.toNat ≤ 57 := by
  unfold Lib.itoa at hx
  split at hx
  · rw [List.mem_cons] at hx
    rcases hx with rfl | hx
    · decide
    · have := digit_mem _ _ hx; omega
  · have := digit_mem _ _ hx; omega
theorem name_mem (k : Nat) : ∀ x ∈ nameOf k, 97 ≤ x.toNat ∧ x.toNat ≤ 122 := by
  unfold nameOf
  split <;> decide
theorem numT_no10 (n : Int) : (10 : UInt8) ∉ numT n := by
  unfold numT
  intro hx
  rw [List.mem_cons] at hx
  rcases hx with hx | hx
  · exact absurd hx (by decide)
  · have := itoa_mem n hx; simp at this
theorem nums_no10 (l : List Int) : (10 : UInt8) ∉ l.flatMap numT := fun hx => by
  obtain ⟨n, _, hx⟩ := List.mem_flatMap.1 hx
  exact numT_no10 n hx
theorem line_no10 (o : Op) : (10 : UInt8) ∉ opLine o := by
  unfold opLine
  intro hx
  rw [List.mem_append] at hx
  rcases hx with hx | hx
  · have := name_mem _ _ hx; simp at this
  · exact nums_no10 _ hx
theorem numT_32 (n : Int) : (numT n).count 32 = 1 := by
  unfold numT
  rw [List.count_cons_self, List.count_eq_zero.2]
  intro hx
  have := itoa_mem n hx; simp at this
theorem nums_32 : ∀ (l : List Int), (l.flatMap numT).count 32 = l.length
  | [] => rfl
  | n :: l => by
    rw [List.flatMap_cons, List.count_append, numT_32 n, nums_32 l, List.length_cons]
    omega
theorem line_32 (o : Op) : (cutA 32 [] (opLine o)).length = (fieldsOf o).length + 1 := by
  rw [cutA_len]
  unfold opLine
  rw [List.count_append, nums_32 _, List.count_eq_zero.2]
  · omega
  · intro hx
    have := name_mem _ _ hx; simp at this
theorem fields_len (o : Op) (h1 : 1 ≤ o.what) (h2 : o.what ≤ 11) : (fieldsOf o).length + 1 = if o.what = 7 then 2 else if o.what = 10 ∨ o.what = 11 then 1 else 3 := by
  obtain ⟨what, a, b⟩ := o
  simp only [] at h1 h2 ⊢
  obtain ⟨k, rfl⟩ : ∃ k : Nat, what = k := ⟨what.toNat, by omega⟩
  have : k ∈ List.range 12 := List.mem_range.2 (by omega)
  unfold fieldsOf
  simp only [Int.toNat_natCast]
  have hk : k = 1 ∨ k = 2 ∨ k = 3 ∨ k = 4 ∨ k = 5 ∨ k = 6 ∨ k = 7 ∨ k = 8 ∨ k = 9 ∨ k = 10 ∨ k = 11 := by omega
  rcases hk with rfl | rfl | rfl | rfl | rfl | rfl | rfl | rfl | rfl | rfl | rfl <;> simp [formA, formB]
end Go.Proofs.YteneedblgaialaaDoor
