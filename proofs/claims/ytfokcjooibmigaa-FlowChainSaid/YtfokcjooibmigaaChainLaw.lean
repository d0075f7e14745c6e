/- A chain of wires, each from a room to the next one: who reaches whom. Plain laws. -/
import Derived.Test.YtfokcjooibmigaaAhead
namespace Go.Proofs.Ytfokcjooibmigaa

def chainW (i : Nat) : Wire := ⟨i, i + 1, 1, 1⟩
def chain (m : Nat) : List Wire := (List.range m).map chainW
theorem chain_succ (m : Nat) : chain (m + 1) = chain m ++ [chainW m] := by simp [chain, List.range_succ]
theorem chain_len (m : Nat) : (chain m).length = m := by simp [chain]
theorem chain_chk (m : Nat) (h : m ≤ 4) : (flowChk (chain m)).2 = 0 := by
  rcases (show m = 0 ∨ m = 1 ∨ m = 2 ∨ m = 3 ∨ m = 4 by omega) with rfl | rfl | rfl | rfl | rfl <;> decide
theorem chain_edge {m u v : Nat} : Edge (chain m) u v ↔ v = u + 1 ∧ u < m := by
  constructor
  · rintro ⟨x, hx, h1, h2⟩
    simp only [chain, List.mem_map, List.mem_range] at hx
    obtain ⟨i, hi, rfl⟩ := hx
    simp only [chainW] at h1 h2
    omega
  · rintro ⟨rfl, h⟩
    exact ⟨chainW u, by simp only [chain, List.mem_map, List.mem_range]; exact ⟨u, h, rfl⟩, rfl, by simp [chainW]⟩
theorem chain_up {m a : Nat} : ∀ d, a + d ≤ m → Reach (chain m) a (a + d)
  | 0, _ => .refl
  | d + 1, h => (chain_up d (by omega)).step (chain_edge.2 ⟨by omega, by omega⟩)
theorem chain_reach {m a b : Nat} (h : Reach (chain m) a b) : a ≤ b := by
  induction h with
  | refl => exact Nat.le_refl _
  | step _ e ih => have := chain_edge.1 e; omega
theorem chain_reachB {m a b : Nat} (_ha : a ≤ m) (hb : b ≤ m) : reachB (chain m) a b = decide (a ≤ b) := by
  by_cases h : a ≤ b
  · rw [decide_eq_true h, reachB_iff]
    have := chain_up (m := m) (a := a) (b - a) (by omega)
    rwa [show a + (b - a) = b by omega] at this
  · rw [decide_eq_false h]
    cases hb : reachB (chain m) a b with
    | false => rfl
    | true => exact absurd (chain_reach (reachB_iff.1 hb)) h
theorem chain_ahead {m a : Nat} (ha : a ≤ m) (hm : m ≤ 4) : (aheadTo (chain m) a 5).length = a + 1 := by
  have h : ((List.range 5).filter fun i => reachB (chain m) i a) = (List.range 5).filter fun i => decide (i ≤ a) := by
    apply List.filter_congr
    intro i _
    by_cases h : i ≤ a
    · exact chain_reachB (by omega) ha
    · rw [decide_eq_false h]
      cases hb : reachB (chain m) i a with
      | false => rfl
      | true => exact absurd (chain_reach (reachB_iff.1 hb)) h
  unfold aheadTo
  rw [List.length_map, h]
  rcases (show a = 0 ∨ a = 1 ∨ a = 2 ∨ a = 3 ∨ a = 4 by omega) with rfl | rfl | rfl | rfl | rfl <;> decide
theorem chain_tellB {m a b : Nat} (hm : m ≤ 4) (ha : a ≤ m) (hb : b ≤ m) : reachOf (chain m) a b = (decide (a ≤ b), 0) := by
  have h1 : roomB (a : Int) = true := roomB_true.2 (by omega)
  have h2 : roomB (b : Int) = true := roomB_true.2 (by omega)
  unfold reachOf
  rw [if_neg (by simp [chain_chk m hm]), if_neg (by simp [h1, h2])]
  simp [chain_reachB ha hb]
theorem chain_tellL {m a : Nat} (hm : m ≤ 4) (ha : a ≤ m) : aheadOf (chain m) a = (aheadTo (chain m) a 5, 0) := by
  have h1 : roomB (a : Int) = true := roomB_true.2 (by omega)
  unfold aheadOf
  rw [if_neg (by simp [chain_chk m hm]), if_neg (by simp [h1])]
  rfl
end Go.Proofs.Ytfokcjooibmigaa
