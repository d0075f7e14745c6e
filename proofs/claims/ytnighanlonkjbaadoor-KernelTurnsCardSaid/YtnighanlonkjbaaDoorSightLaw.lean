/- Plain: a room's states, tick by tick. -/
import Derived.Test.YtnighanlonkjbaaDoorKernLaw
import Derived.Test.YtnighanlonkjbaaDoorFrOk
namespace Go.Proofs.YtnighanlonkjbaaDoor

theorem spans_ok {p : Pl} (hp : PlOk p) : ∀ s ∈ p.spans, 0 ≤ s.room ∧ s.room < p.code.length := fun s hs => by
  refine ⟨?_, hp.spans s hs⟩
  obtain ⟨i, hi⟩ := List.mem_iff_getElem?.1 hs
  exact (spanOk (frOk_of hp.frame i s hi).1).2.2.2.1
/-- The kernel behind so many ticks. -/
def runK (p : Pl) : Nat → Kst
  | 0 => kNew p
  | t + 1 => (tick p (runK p t)).2
theorem runK_ok {p : Pl} (hp : PlOk p) : ∀ t : Nat, KOk p (runK p t) t
  | 0 => kNew_ok hp
  | t + 1 => by
    have h := tick_ok hp (runK_ok hp t) (spans_ok hp)
    exact h
def stAtT (p : Pl) (r t : Nat) : St := (runK p t).rooms.getD r St.zero
def statesTo (p : Pl) (r : Nat) : Nat → List St
  | 0 => []
  | t + 1 => statesTo p r t ++ [stAtT p r t]
theorem statesTo_len (p : Pl) (r : Nat) : ∀ t, (statesTo p r t).length = t
  | 0 => rfl
  | t + 1 => by simp [statesTo, statesTo_len p r t]
theorem statesTo_get (p : Pl) (r : Nat) : ∀ t j, j < t → (statesTo p r t)[j]? = some (stAtT p r j)
  | 0, j, h => by omega
  | t + 1, j, h => by
    have hl := statesTo_len p r t
    by_cases e : j = t
    · subst e
      simp only [statesTo]
      rw [List.getElem?_append_right (by omega), hl, Nat.sub_self]; rfl
    · simp only [statesTo]
      rw [List.getElem?_append_left (by omega)]
      exact statesTo_get p r t j (by omega)
theorem stAtT_zero {p : Pl} {r : Nat} (h : r < p.code.length) : stAtT p r 0 = St.zero := by
  simp [stAtT, runK, kNew, List.getD_eq_getElem?_getD, List.getElem?_map, List.getElem?_eq_getElem h]
end Go.Proofs.YtnighanlonkjbaaDoor
