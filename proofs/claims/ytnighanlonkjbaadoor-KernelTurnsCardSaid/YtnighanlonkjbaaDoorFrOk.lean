/- Frames that are right: each span is, and none meets one ahead of it. -/
import Derived.Test.YtnighanlonkjbaaDoorFrame2
namespace Go.Proofs.YtnighanlonkjbaaDoor

/-- Each span is right, and none meets one ahead of it. -/
def FrOk (T : Int) (l : List Span) : Prop := ∀ k s, l[k]? = some s → spanBad T s = false ∧ (l.take k).any (spanMeets s) = false
theorem spansChk_all {T : Int} {l : List Span} : ∀ {f k : Nat}, l.length < f + k → (spansChk T l f k).2 = 0 → ∀ j s, k ≤ j → l[j]? = some s → spanBad T s = false ∧ (l.take j).any (spanMeets s) = false
  | 0, k, hf, _, j, s, hj, hs => by have := (List.getElem?_eq_some_iff.1 hs).1; omega
  | f + 1, k, hf, h, j, s, hj, hs => by
    have hk : k < l.length := by have := (List.getElem?_eq_some_iff.1 hs).1; omega
    have hg := List.getElem?_eq_getElem hk
    cases hb : spanBad T l[k] with
    | true => rw [spansChk_bad hg hb] at h; exact absurd h (by simp)
    | false =>
      cases hm : (l.take k).any (spanMeets l[k]) with
      | true => rw [spansChk_meets hg hb hm] at h; exact absurd h (by simp)
      | false =>
        rw [spansChk_next hg hb hm] at h
        by_cases e : j = k
        · subst e; rw [hg] at hs; cases hs; exact ⟨hb, hm⟩
        · exact spansChk_all (by omega) h j s (by omega) hs
theorem frOk_of {T : Int} {l : List Span} (h : (frameChk T l).2 = 0) : FrOk T l := by
  unfold frameChk at h
  split at h
  · simp at h
  · split at h
    · simp at h
    · exact fun k s hs => spansChk_all (by omega) h k s (Nat.zero_le _) hs
theorem spanOk {T : Int} {s : Span} (h : spanBad T s = false) : 0 ≤ s.fr ∧ s.fr < s.to ∧ s.to ≤ T ∧ 0 ≤ s.room ∧ s.room < 5 := by
  unfold spanBad at h
  rw [Bool.or_eq_false_iff] at h
  have h1 := of_decide_eq_false h.1
  have h2 : roomB s.room = true := by simpa using h.2
  have := roomB_true.1 h2
  omega

end Go.Proofs.YtnighanlonkjbaaDoor
