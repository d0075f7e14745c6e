/- Plain: a text as the reference cuts it, at its lines' ends and at blanks: which texts are events. No program is walked. Conditions: none. -/
import Derived.Test.YtldllmhgofacbaaGreatDoorEvU
import Derived.Test.YtldllmhgofacbaaGreatDoorRTextU
namespace Go.Proofs.YtldllmhgofacbaaGreatDoor

theorem cut_lines (c : UInt8) : ∀ (l acc : List UInt8), c ∉ acc → ∃ (P : List (List UInt8)) (z : List UInt8), cutA c acc l = P ++ [z] ∧ acc ++ l = P.flatMap (fun x => x ++ [c]) ++ z ∧ (∀ x ∈ P, c ∉ x) ∧ c ∉ z
  | [], acc, h => ⟨[], acc, rfl, (by simp), (fun x hx => by cases hx), h⟩
  | x :: l, acc, h => by
    unfold cutA
    split
    · rename_i hx
      subst hx
      obtain ⟨P, z, h1, h2, h3, h4⟩ := cut_lines x l [] (by simp)
      rw [List.nil_append] at h2
      refine ⟨acc :: P, z, by rw [h1]; rfl, ?_, ?_, h4⟩
      · rw [List.flatMap_cons, List.append_assoc, ← h2]; simp
      · intro y hy
        rcases List.mem_cons.1 hy with rfl | hy
        · exact h
        · exact h3 y hy
    · rename_i hx
      obtain ⟨P, z, h1, h2, h3, h4⟩ := cut_lines c l (acc ++ [x]) (by simp only [List.mem_append, List.mem_singleton]; rintro (h' | h'); exact h h'; exact hx h'.symm)
      exact ⟨P, z, h1, by rw [← h2]; simp, h3, h4⟩
theorem lines_joined {P : List (List UInt8)} (hP : ∀ x ∈ P, (10 : UInt8) ∉ x) : linesOf (P.flatMap fun x => x ++ [10]) = P.map fun x => x ++ [10] := linesG_of (fun x => x) P hP
theorem evs_no_tail {P : List (List UInt8)} {z t : List UInt8} (ht : t = P.flatMap (fun x => x ++ [10]) ++ z) (hz : z ≠ []) (h10 : (10 : UInt8) ∉ z) (l : List Ev) : evsText l ≠ t := by
  rintro rfl
  obtain ⟨y, hy⟩ : ∃ y, z.getLast? = some y := by
    cases hx : z.getLast? with
    | none => exact absurd (List.getLast?_eq_none_iff.1 hx) hz
    | some y => exact ⟨y, rfl⟩
  have h1 : (evsText l).getLast? = some y := by rw [ht, List.getLast?_append, hy]; rfl
  rcases List.eq_nil_or_concat l with rfl | ⟨l', x, rfl⟩
  · simp [evsText] at h1
  · have h2 : evsText (l'.concat x) = evsText l' ++ evLine x ++ [10] := by
      unfold evsText evText
      rw [List.concat_eq_append, List.flatMap_append]; simp
    rw [h2, List.getLast?_append] at h1
    simp at h1
    exact h10 (h1 ▸ List.mem_of_getLast? hy)
theorem evs_line_no {P : List (List UInt8)} {t s : List UInt8} (ht : t = P.flatMap fun x => x ++ [10]) (hP : ∀ x ∈ P, (10 : UInt8) ∉ x) (hs : s ∈ P) (hno : ∀ x, WfEv x → evLine x ≠ s) (l : List Ev) (hl : ∀ o ∈ l, WfEv o) : evsText l ≠ t := by
  refine evs_not (x := s ++ [10]) ?_ (fun o ho e => hno o ho (List.append_cancel_right e)) l hl
  rw [ht, lines_joined hP]
  exact List.mem_map_of_mem (f := fun x => x ++ [10]) hs
theorem evs_all {P : List (List UInt8)} {l : List Ev} (h : l.map evLine = P) : evsText l = P.flatMap fun x => x ++ [10] := by
  subst h
  unfold evsText evText
  rw [List.flatMap_map]
theorem words_no {s : List UInt8} (h : (cutA 32 [] s).length ≠ 4) (x : Ev) : evLine x ≠ s := by
  rintro rfl
  rw [cut_ev] at h
  exact h rfl
theorem word_no {s a b c d : List UInt8} (hc : cutA 32 [] s = [a, b, c, d]) (h : numOf 7 a = none ∨ numOf 7 (wordOf b) = none ∨ numOf 7 c = none ∨ numOf 7 d = none) (x : Ev) (hx : WfEv x) : evLine x ≠ s := by
  intro e
  have h1 := cut_ev x
  rw [e, hc] at h1
  simp only [List.cons.injEq, and_true] at h1
  obtain ⟨e0, e1, e2, e3⟩ := h1
  have h2 := (evread_nums hx).1
  rw [← e0, ← e1, ← e2, ← e3] at h2
  have h3 : numsOf 7 [a, wordOf b, c, d] = none := by
    rcases h with h | h | h | h
    · exact numsOf_bad (l := []) h
    · exact numsOf_bad (l := [a]) h
    · exact numsOf_bad (l := [a, wordOf b]) h
    · exact numsOf_bad (l := [a, wordOf b, c]) h
  rw [h3] at h2
  cases h2
theorem word_yes {s a b c d : List UInt8} {n0 n1 n2 n3 : Nat} (hc : cutA 32 [] s = [a, b, c, d]) (h0 : numOf 7 a = some n0) (h1 : numOf 7 (wordOf b) = some n1) (h2 : numOf 7 c = some n2) (h3 : numOf 7 d = some n3) :
    WfEv ⟨n0, if b = [45] then -1 else n1, n2, n3⟩ ∧ evLine ⟨n0, if b = [45] then -1 else n1, n2, n3⟩ = s := by
  refine evread_yes hc ?_
  unfold numsOf
  rw [h0]
  simp only []
  unfold numsOf
  rw [h1]
  simp only []
  unfold numsOf
  rw [h2]
  simp only []
  unfold numsOf
  rw [h3]
  rfl
end Go.Proofs.YtldllmhgofacbaaGreatDoor
