/- Plain: which texts are code, and of which ops. No program is walked. Conditions: none. -/
import Derived.Test.YteneedblgaialaaDoorReadLaw
import Derived.Test.YteneedblgaialaaDoorLinesW
namespace Go.Proofs.YteneedblgaialaaDoor

theorem linesA_join : ∀ (l acc : List UInt8), (linesA acc l).flatten = acc ++ l
  | [], acc => by
    unfold linesA
    split
    · rename_i h; simp [h]
    · simp
  | x :: l, acc => by
    unfold linesA
    split
    · rename_i h
      rw [List.flatten_cons, linesA_join l [], h]; simp
    · rw [linesA_join l]; simp
theorem lines_join (l : List UInt8) : (linesOf l).flatten = l := by
  have := linesA_join l []
  rw [List.nil_append] at this; exact this
theorem lines_of (f : Op → List UInt8) : ∀ (l : List Op), (∀ o ∈ l, (10 : UInt8) ∉ f o) → linesOf (l.flatMap fun o => f o ++ [10]) = l.map fun o => f o ++ [10]
  | [], _ => rfl
  | o :: l, h => by
    rw [List.flatMap_cons, List.append_assoc, List.map_cons]
    show linesOf (f o ++ 10 :: l.flatMap fun o => f o ++ [10]) = _
    rw [linesOf_line _ _ (h o (by simp)), lines_of f l (fun o ho => h o (by simp [ho]))]
theorem lines_code (l : List Op) : linesOf (codeText l) = l.map opText := lines_of opLine l fun o _ => line_no10 o
/-- A line is a whole one, or the last without an end. -/
theorem linesA_mem : ∀ (l acc : List UInt8), (10 : UInt8) ∉ acc → ∀ x ∈ linesA acc l, (∃ t, x = t ++ [10] ∧ (10 : UInt8) ∉ t) ∨ ((10 : UInt8) ∉ x)
  | [], acc, h, x, hx => by
    unfold linesA at hx
    split at hx
    · cases hx
    · simp at hx; subst hx; exact .inr h
  | y :: l, acc, h, x, hx => by
    unfold linesA at hx
    split at hx
    · rcases List.mem_cons.1 hx with rfl | hx
      · exact .inl ⟨acc, rfl, h⟩
      · exact linesA_mem l [] (by simp) x hx
    · rename_i hy
      exact linesA_mem l _ (by simp only [List.mem_append, List.mem_singleton]; rintro (h1 | h1); exact h h1; exact hy h1.symm) x hx
theorem lines_mem {l x : List UInt8} (h : x ∈ linesOf l) : (∃ t, x = t ++ [10] ∧ (10 : UInt8) ∉ t) ∨ ((10 : UInt8) ∉ x) := linesA_mem l [] (by simp) x h
theorem lines_le {l x : List UInt8} (h : x ∈ linesOf l) : x.length ≤ l.length := by
  have H : ∀ L : List (List UInt8), x ∈ L → x.length ≤ L.flatten.length := by
    intro L
    induction L with
    | nil => intro h; cases h
    | cons y L ih =>
      intro h
      rw [List.flatten_cons, List.length_append]
      rcases List.mem_cons.1 h with rfl | h
      · omega
      · have := ih h; omega
  have h1 := H (linesOf l) h
  rw [lines_join] at h1; exact h1
theorem lines_ne {l x : List UInt8} (h : x ∈ linesOf l) : x ≠ [] := by
  have H : ∀ (l acc : List UInt8), ∀ x ∈ linesA acc l, x ≠ [] := by
    intro l
    induction l with
    | nil =>
      intro acc x hx
      unfold linesA at hx
      split at hx
      · cases hx
      · rename_i h; simp at hx; rw [hx]; exact h
    | cons y l ih =>
      intro acc x hx
      unfold linesA at hx
      split at hx
      · rcases List.mem_cons.1 hx with rfl | hx
        · simp
        · exact ih [] x hx
      · exact ih _ x hx
  exact H l [] x h
theorem lines_few (l : List UInt8) : (linesOf l).length ≤ l.length := by
  have H : ∀ L : List (List UInt8), (∀ x ∈ L, x ≠ []) → L.length ≤ L.flatten.length := by
    intro L
    induction L with
    | nil => intro _; simp
    | cons x L ih =>
      intro h
      have h1 := ih fun y hy => h y (by simp [hy])
      have h2 : 0 < x.length := List.length_pos_iff.2 (h x (by simp))
      rw [List.flatten_cons, List.length_append, List.length_cons]; omega
  have := H (linesOf l) fun x hx => lines_ne hx
  rw [lines_join] at this; exact this
/-- A text whose lines are the ops' is their code's text. -/
theorem code_of {t : List UInt8} {l : List Op} (h : linesOf t = l.map opText) : codeText l = t := by
  rw [← lines_join t, h]
  unfold codeText
  rw [List.flatMap_def]
/-- A line that is no op's: the text is no code. -/
theorem code_not {t x : List UInt8} (hx : x ∈ linesOf t) (hno : ∀ o, WfOp o → opText o ≠ x) : ∀ l : List Op, (∀ o ∈ l, WfOp o) → codeText l ≠ t := by
  rintro l hl rfl
  rw [lines_code] at hx
  obtain ⟨o, ho, he⟩ := List.mem_map.1 hx
  exact hno o (hl o ho) he
/-- Two codes with one text are one. -/
theorem code_inj {l l' : List Op} (h : ∀ o ∈ l, WfOp o) (h' : ∀ o ∈ l', WfOp o) (e : codeText l = codeText l') : l = l' := by
  have h1 := lines_code l
  rw [e, lines_code] at h1
  have H : ∀ (a b : List Op), (∀ o ∈ a, WfOp o) → (∀ o ∈ b, WfOp o) → a.map opText = b.map opText → a = b := by
    intro a
    induction a with
    | nil =>
      intro b _ _ hm
      cases b with
      | nil => rfl
      | cons y b => simp at hm
    | cons x a ih =>
      intro b ha hb hm
      cases b with
      | nil => simp at hm
      | cons y b =>
        rw [List.map_cons, List.map_cons] at hm
        injection hm with h2 h3
        rw [ih b (fun o ho => ha o (by simp [ho])) (fun o ho => hb o (by simp [ho])) h3]
        have h4 : opLine x = opLine y := List.append_cancel_right h2
        rw [op_inj (ha x (by simp)) (hb y (by simp)) h4]
  exact (H l' l h' h h1).symm
end Go.Proofs.YteneedblgaialaaDoor
