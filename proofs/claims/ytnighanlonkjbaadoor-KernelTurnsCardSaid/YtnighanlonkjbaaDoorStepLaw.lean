/- Plain: a step stays within what is right. No program in sight. -/
import Derived.Test.YtnighanlonkjbaaDoorRoomLaw
namespace Go.Proofs.YtnighanlonkjbaaDoor

theorem opOk_iff {o : Op} {many : Int} : opOk o many = true ↔ (1 ≤ o.what ∧ o.what ≤ 11 ∧ 0 ≤ o.b ∧ o.b < bBound o.what many ∧ 0 ≤ o.a ∧ o.a < aBound o.what) := by
  unfold opOk; rw [decide_eq_true_eq]
theorem opOk_a {o : Op} {many : Int} (h : opOk o many = true) : 0 ≤ o.a ∧ o.a.toNat < 6 := by
  have := opOk_iff.1 h
  unfold aBound at this
  split at this <;> omega
theorem opOk_b6 {o : Op} {many : Int} (h : opOk o many = true) (hw : 2 ≤ o.what ∧ o.what ≤ 5) : 0 ≤ o.b ∧ o.b.toNat < 6 := by
  have := opOk_iff.1 h
  unfold bBound at this
  rw [if_neg (by omega), if_pos (by omega)] at this
  omega
theorem opOk_b1 {o : Op} {many : Int} (h : opOk o many = true) (hw : o.what = 1) : 0 ≤ o.b ∧ o.b < 1000 := by
  have := opOk_iff.1 h
  unfold bBound at this
  rw [if_pos (by omega)] at this
  omega
theorem opOk_bm {o : Op} {many : Int} (h : opOk o many = true) (hw : o.what = 6 ∨ o.what = 7) : 0 ≤ o.b ∧ o.b < many := by
  have := opOk_iff.1 h
  unfold bBound at this
  rw [if_neg (by omega), if_neg (by omega), if_pos (by omega)] at this
  omega
theorem opOk_bw {o : Op} {many : Int} (h : opOk o many = true) (hw : o.what = 8 ∨ o.what = 9) : 0 ≤ o.b ∧ o.b < 12 := by
  have := opOk_iff.1 h
  unfold bBound at this
  rw [if_neg (by omega), if_neg (by omega), if_neg (by omega), if_pos (by omega)] at this
  omega

theorem nextPc_bd {s : St} {n : Int} (h : 0 < n) : 0 ≤ nextPc s n ∧ nextPc s n < n := ⟨Int.emod_nonneg _ (by omega), Int.emod_lt_of_pos _ h⟩
theorem get_pc (s : St) (x : Int) (a : Nat) : ({ s with pc := x } : St).get a = s.get a := by unfold St.get; split <;> rfl
theorem stOk_pc {s : St} {n x : Int} (h : stOk s n = true) (hx : 0 ≤ x ∧ x < n) : stOk { s with pc := x } n = true :=
  stOk_iff.2 ⟨hx, fun a ha => by rw [get_pc]; exact (stOk_iff.1 h).2 a ha⟩
theorem stOk_put {s : St} {n : Int} {a : Nat} {v : Int} (h : stOk s n = true) (ha : a < 6) (hv : 0 ≤ v ∧ v < 1000) : stOk (s.put a v) n = true := by
  refine stOk_iff.2 ⟨by rw [St.put_pc]; exact (stOk_iff.1 h).1, fun b hb => ?_⟩
  rw [St.get_put s ha hb]
  split
  · exact hv
  · exact (stOk_iff.1 h).2 b hb

/-- How a step can end: one cell put and on, or only on, or it stays. -/
inductive StepKind (n : Int) (o : Op) (s : St) : St × Int → Prop
  | put (a : Nat) (v : Int) (ha : a < 6) (hv : 0 ≤ v ∧ v < 1000) : s.failed = false → StepKind n o s ({ s.put a v with pc := nextPc s n }, -1)
  | on (x : Int) (out : Int) (hx : 0 ≤ x ∧ x < n) (ho : -1 ≤ out ∧ out < 1000) : s.failed = false → StepKind n o s ({ s with pc := x }, out)
  | stay : StepKind n o s (s, -1)
  | fail : s.failed = false → StepKind n o s ({ s with failed := true }, -1)

theorem step_kind {n : Int} {o : Op} {s : St} {got : Int} {is : Bool} (hn : 0 < n) (ho : opOk o n = true) (hs : stOk s n = true) (hg : is = true → 0 ≤ got ∧ got < 1000) : StepKind n o s (stepDo n o s got is) := by
  have hst := stOk_iff.1 hs
  have ha := opOk_a ho
  have hga := hst.2 _ ha.2
  have hnp := nextPc_bd (s := s) hn
  unfold stepDo
  by_cases hf : s.failed = true
  · rw [if_pos hf]; exact .stay
  have hf' : s.failed = false := by simpa using hf
  rw [if_neg hf]
  by_cases h1 : o.what = 1
  · rw [if_pos h1]; exact .put _ _ ha.2 (opOk_b1 ho h1) hf'
  rw [if_neg h1]
  by_cases h2 : o.what = 2
  · rw [if_pos h2]; exact .put _ _ ha.2 (hst.2 _ (opOk_b6 ho (by omega)).2) hf'
  rw [if_neg h2]
  by_cases h3 : o.what = 3
  · rw [if_pos h3]; exact .put _ _ ha.2 (by omega) hf'
  rw [if_neg h3]
  by_cases h4 : o.what = 4
  · rw [if_pos h4]; exact .put _ _ ha.2 (by omega) hf'
  rw [if_neg h4]
  by_cases h5 : o.what = 5
  · rw [if_pos h5]; exact .put _ _ ha.2 ⟨Int.emod_nonneg _ (by omega), Int.emod_lt_of_pos _ (by omega)⟩ hf'
  rw [if_neg h5]
  by_cases h6 : o.what = 6
  · rw [if_pos h6]
    refine .on _ _ ?_ (by omega) hf'
    split
    · exact opOk_bm ho (.inl h6)
    · exact hnp
  rw [if_neg h6]
  by_cases h7 : o.what = 7
  · rw [if_pos h7]; exact .on _ _ (opOk_bm ho (.inr h7)) (by omega) hf'
  rw [if_neg h7]
  by_cases h8 : o.what = 8
  · rw [if_pos h8]; exact .on _ _ hnp (by omega) hf'
  rw [if_neg h8]
  by_cases h9 : o.what = 9
  · rw [if_pos h9]
    cases is with
    | true => rw [if_pos rfl]; exact .put _ _ ha.2 (hg rfl) hf'
    | false => rw [if_neg (by decide)]; exact .stay
  rw [if_neg h9]
  by_cases h11 : o.what = 11
  · rw [if_pos h11]; exact .fail hf'
  rw [if_neg h11]
  exact .on _ _ hnp (by omega) hf'

theorem StepKind.ok {n : Int} {o : Op} {s : St} {r : St × Int} (h : StepKind n o s r) (hn : 0 < n) (hs : stOk s n = true) : stOk r.1 n = true ∧ -1 ≤ r.2 ∧ r.2 < 1000 := by
  cases h with
  | put a v ha hv _ => exact ⟨stOk_pc (stOk_put hs ha hv) (nextPc_bd hn), by simp, by simp⟩
  | on x out hx ho _ => exact ⟨stOk_pc hs hx, ho.1, ho.2⟩
  | stay => exact ⟨hs, by simp, by simp⟩
  | fail _ =>
    refine ⟨stOk_iff.2 ⟨(stOk_iff.1 hs).1, fun a ha => ?_⟩, by simp, by simp⟩
    have := (stOk_iff.1 hs).2 a ha
    rcases six ha with rfl | rfl | rfl | rfl | rfl | rfl <;> exact this
theorem step_ok {n : Int} {o : Op} {s : St} {got : Int} {is : Bool} (hn : 0 < n) (ho : opOk o n = true) (hs : stOk s n = true) (hg : is = true → 0 ≤ got ∧ got < 1000) :
    stOk (stepDo n o s got is).1 n = true ∧ -1 ≤ (stepDo n o s got is).2 ∧ (stepDo n o s got is).2 < 1000 := (step_kind hn ho hs hg).ok hn hs

/-- How many of the first k cells are unlike. -/
def unlike (s t : St) : Nat → Nat
  | 0 => 0
  | k + 1 => unlike s t k + if t.get k = s.get k then 0 else 1
theorem unlike_le (s t : St) : ∀ k, unlike s t k ≤ k
  | 0 => Nat.le_refl _
  | k + 1 => by have := unlike_le s t k; unfold unlike; split <;> omega
theorem unlike_none {s t : St} : ∀ k, (∀ a, a < k → t.get a = s.get a) → unlike s t k = 0
  | 0, _ => rfl
  | k + 1, h => by unfold unlike; rw [unlike_none k (fun a ha => h a (by omega)), if_pos (h k (by omega))]
theorem unlike_one {s t : St} {b : Nat} : ∀ k, (∀ a, a < k → a ≠ b → t.get a = s.get a) → unlike s t k ≤ 1
  | 0, _ => by simp [unlike]
  | k + 1, h => by
    unfold unlike
    by_cases e : k = b
    · subst e
      rw [unlike_none k (fun a ha => h a (by omega) (by omega))]
      split <;> omega
    · rw [if_pos (h k (by omega) e)]
      exact unlike_one k (fun a ha => h a (by omega))
theorem StepKind.stays {n : Int} {o : Op} {s : St} {r : St × Int} (h : StepKind n o s r) : unlike s r.1 6 ≤ 1 ∧ (0 ≤ r.2 → unlike s r.1 6 = 0) ∧ (s.failed = true → r.1 = s) := by
  cases h with
  | put a v ha hv hf =>
    refine ⟨unlike_one (b := a) 6 fun b hb hne => ?_, fun h => by simp at h, fun h => by rw [hf] at h; cases h⟩
    rw [get_pc, St.get_put s ha hb, if_neg hne]
  | on x out hx ho hf =>
    have h0 := unlike_none (s := s) (t := { s with pc := x }) 6 (fun a _ => get_pc s x a)
    exact ⟨by simp only []; omega, fun _ => h0, fun h => by rw [hf] at h; cases h⟩
  | stay =>
    have h0 := unlike_none (s := s) (t := s) 6 (fun a _ => rfl)
    exact ⟨by simp only []; omega, fun _ => h0, fun _ => rfl⟩
  | fail hf =>
    have h0 := unlike_none (s := s) (t := { s with failed := true }) 6 (fun a ha => by rcases six ha with rfl | rfl | rfl | rfl | rfl | rfl <;> rfl)
    exact ⟨by simp only []; omega, fun _ => h0, fun h => by rw [hf] at h; cases h⟩
/-- What is there to be taken does not matter but to who takes. -/
theorem step_got {n : Int} {o : Op} {s : St} {got got' : Int} {is is' : Bool} (h : o.what ≠ 9) : stepDo n o s got is = stepDo n o s got' is' := by
  unfold stepDo
  rw [if_neg (c := o.what = 9) h, if_neg (c := o.what = 9) h]
end Go.Proofs.YtnighanlonkjbaaDoor
