/- Plain: the lines of a text, each with its end, as strings.Lines hands them over. No program is walked. Conditions: none. -/
import Derived.Test.YteneedblgaialaaDoorTextLaw
import Derived.Lib.Bytealg
namespace Go.Proofs.YteneedblgaialaaDoor

/-- The lines of a text, each with its end; behind what has been read. -/
def linesA : List UInt8 → List UInt8 → List (List UInt8)
  | acc, [] => if acc = [] then [] else [acc]
  | acc, x :: r => if x = 10 then (acc ++ [10]) :: linesA [] r else linesA (acc ++ [x]) r
def linesOf (l : List UInt8) : List (List UInt8) := linesA [] l

theorem linesA_pass : ∀ (t acc r : List UInt8), (10 : UInt8) ∉ t → linesA acc (t ++ r) = linesA (acc ++ t) r
  | [], acc, r, _ => by simp
  | x :: t, acc, r, h => by
    have hx : x ≠ 10 := fun e => h (by simp [e])
    rw [List.cons_append, linesA, if_neg hx, linesA_pass t _ r (fun e => h (by simp [e]))]
    simp
theorem linesOf_line (t r : List UInt8) (h : (10 : UInt8) ∉ t) : linesOf (t ++ 10 :: r) = (t ++ [10]) :: linesOf r := by
  unfold linesOf
  rw [linesA_pass t [] _ h, linesA, if_pos rfl]; simp
theorem linesOf_last (t : List UInt8) (h : (10 : UInt8) ∉ t) (h0 : t ≠ []) : linesOf t = [t] := by
  have := linesA_pass t [] [] h
  rw [List.append_nil, List.nil_append] at this
  unfold linesOf
  rw [this, linesA, if_neg h0]
theorem index_miss : ∀ (l : List UInt8) (c : UInt8), Lib.indexByte l c = -1 → c ∉ l
  | [], _, _ => by simp
  | b :: l, c, h => by
    unfold Lib.indexByte at h
    split at h
    · simp at h
    · rename_i hb
      have hg := Lib.indexByte_ge l c
      split at h
      · rename_i h1
        have := index_miss l c (by simpa using h1)
        simp only [List.mem_cons, not_or]
        exact ⟨fun e => hb (by simp [e]), this⟩
      · rename_i h1
        exact absurd (show Lib.indexByte l c = -1 - 1 by omega) (by omega)
theorem index_hit : ∀ (l : List UInt8) (c : UInt8) (k : Nat), Lib.indexByte l c = k → l = l.take k ++ c :: l.drop (k + 1) ∧ c ∉ l.take k ∧ k < l.length
  | [], c, k, h => by
    have h1 : Lib.indexByte [] c = -1 := rfl
    omega
  | b :: l, c, k, h => by
    unfold Lib.indexByte at h
    split at h
    · rename_i hb
      obtain rfl : k = 0 := by omega
      have : b = c := by simpa using hb
      subst this
      simp
    · rename_i hb
      have hg := Lib.indexByte_ge l c
      split at h
      · omega
      · rename_i h1
        have h2 : Lib.indexByte l c ≠ -1 := by simpa using h1
        obtain ⟨j, rfl⟩ : ∃ j, k = j + 1 := ⟨k - 1, by omega⟩
        obtain ⟨e1, e2, e3⟩ := index_hit l c j (by omega)
        refine ⟨?_, ?_, by simp; omega⟩
        · rw [List.take_succ_cons, List.drop_succ_cons, List.cons_append, ← e1]
        · rw [List.take_succ_cons, List.mem_cons, not_or]
          exact ⟨fun e => hb (by simp [e]), e2⟩
/-- One step of the iterator: the first line, and the rest. -/
theorem linesOf_hit (l : List UInt8) (k : Nat) (h : Lib.indexByte l 10 = k) : linesOf l = l.take (k + 1) :: linesOf (l.drop (k + 1)) ∧ k < l.length := by
  obtain ⟨e1, e2, e3⟩ := index_hit l 10 k h
  refine ⟨?_, e3⟩
  have e4 : l.take (k + 1) = l.take k ++ [10] := by
    conv => lhs; rw [e1]
    have h5 : (l.take k).length = k := by rw [List.length_take]; omega
    have h6 := List.take_left' (l₂ := l.drop (k + 1)) (show (l.take k ++ [10]).length = k + 1 by simp only [List.length_append, List.length_singleton]; omega)
    rw [List.append_assoc] at h6
    exact h6
  rw [e4]
  conv => lhs; rw [e1]
  exact linesOf_line _ _ e2
theorem linesOf_miss (l : List UInt8) (h : Lib.indexByte l 10 = -1) (h0 : l ≠ []) : linesOf l = [l] := linesOf_last l (index_miss l 10 h) h0
end Go.Proofs.YteneedblgaialaaDoor
