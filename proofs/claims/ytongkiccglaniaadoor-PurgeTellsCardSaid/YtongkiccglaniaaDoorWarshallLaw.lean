/- Who reaches whom, by a square of rooms that is closed over each room in turn: plain laws. -/
import Derived.Test.YtongkiccglaniaaDoorWaysU
namespace Go.Proofs.YtongkiccglaniaaDoor

open Classical in
noncomputable def edgeB (l : List Wire) (a b : Nat) : Bool := decide (Edge l a b)
theorem edgeB_iff {l : List Wire} {a b : Nat} : edgeB l a b = true ↔ Edge l a b := by simp [edgeB]
/-- Over rooms below m. -/
noncomputable def war (l : List Wire) : Nat → Nat → Nat → Bool
  | 0, i, k => decide (i = k) || edgeB l i k
  | m + 1, i, k => war l m i k || (war l m i m && war l m m k)
theorem war_up {l : List Wire} {m i k : Nat} (h : war l m i k = true) : war l (m + 1) i k = true := by simp [war, h]
theorem war_col (l : List Wire) (m i : Nat) : war l (m + 1) i m = war l m i m := by
  simp only [war]; cases war l m i m <;> simp
theorem war_row (l : List Wire) (m k : Nat) : war l (m + 1) m k = war l m m k := by
  simp only [war]; cases war l m m k <;> simp
theorem war_sound {l : List Wire} : ∀ {m i k : Nat}, war l m i k = true → Reach l i k
  | 0, i, k, h => by
    simp only [war, Bool.or_eq_true, decide_eq_true_eq] at h
    rcases h with h | h
    · subst h; exact .refl
    · exact Reach.refl.step (edgeB_iff.1 h)
  | m + 1, i, k, h => by
    simp only [war, Bool.or_eq_true, Bool.and_eq_true] at h
    rcases h with h | ⟨h1, h2⟩
    · exact war_sound h
    · exact (war_sound h1).trans (war_sound h2)
theorem war_trans {l : List Wire} : ∀ {m i j k : Nat}, j < m → war l m i j = true → war l m j k = true → war l m i k = true
  | m + 1, i, j, k, hj, h1, h2 => by
    by_cases e : j = m
    · subst e
      rw [war_col] at h1
      rw [war_row] at h2
      simp [war, h1, h2]
    · have T := fun {a b : Nat} => war_trans (l := l) (m := m) (i := a) (j := j) (k := b) (by omega)
      simp only [war, Bool.or_eq_true, Bool.and_eq_true] at h1 h2 ⊢
      rcases h1 with h1 | ⟨h1, h3⟩ <;> rcases h2 with h2 | ⟨h2, h4⟩
      · exact .inl (T h1 h2)
      · exact .inr ⟨T h1 h2, h4⟩
      · exact .inr ⟨h1, T h3 h2⟩
      · exact .inr ⟨h1, h4⟩
theorem war_ge {l : List Wire} {i k : Nat} (h : war l 0 i k = true) : ∀ m, war l m i k = true
  | 0 => h
  | m + 1 => war_up (war_ge h m)
theorem war_all {l : List Wire} (hr : InRooms l) {a b : Nat} : war l 5 a b = reachB l a b := by
  have hR : Reach l a b → war l 5 a b = true := by
    intro h
    induction h with
    | refl => exact war_ge (by simp [war]) 5
    | @step u v _ e ih => exact war_trans (e.lt hr).1 ih (war_ge (by simp [war, edgeB_iff.2 e]) 5)
  cases hb : reachB l a b with
  | true => exact hR (reachB_iff.1 hb)
  | false =>
    cases hc : war l 5 a b with
    | false => rfl
    | true => rw [reachB_iff.2 (war_sound hc)] at hb; cases hb

/-- In the middle of the m-th closing: rows below i are done, and of row i what is below k. -/
noncomputable def warMid (l : List Wire) (m i k : Nat) : Nat → Bool := fun p =>
  if p / 5 < i ∨ (p / 5 = i ∧ p % 5 < k) then war l (m + 1) (p / 5) (p % 5) else war l m (p / 5) (p % 5)
theorem warMid_col {l : List Wire} {m i k a : Nat} (hm : m < 5) (_ha : a < 5) : warMid l m i k (a * 5 + m) = war l m a m := by
  unfold warMid
  rw [show (a * 5 + m) / 5 = a by omega, show (a * 5 + m) % 5 = m by omega]
  split
  · exact war_col l m a
  · rfl
theorem warMid_row {l : List Wire} {m i k b : Nat} (hb : b < 5) (_hm : m < 5) : warMid l m i k (m * 5 + b) = war l m m b := by
  unfold warMid
  rw [show (m * 5 + b) / 5 = m by omega, show (m * 5 + b) % 5 = b by omega]
  split
  · exact war_row l m b
  · rfl
theorem warMid_set {l : List Wire} {m i k : Nat} (hk : k < 5) (h : (war l m i m && war l m m k) = true) : ∀ p, p < 25 → upd (warMid l m i k) (i * 5 + k) p = warMid l m i (k + 1) p := by
  intro p hp
  have h' := Bool.and_eq_true_iff.1 h
  by_cases e : p = i * 5 + k
  · subst e
    unfold warMid
    rw [upd_same, show (i * 5 + k) / 5 = i by omega, show (i * 5 + k) % 5 = k by omega, if_pos (.inr ⟨rfl, by omega⟩)]
    simp [war, h'.1, h'.2]
  · rw [upd_other e]
    unfold warMid
    have : (p / 5 < i ∨ (p / 5 = i ∧ p % 5 < k)) ↔ (p / 5 < i ∨ (p / 5 = i ∧ p % 5 < k + 1)) := by omega
    simp only [this]
theorem warMid_same {l : List Wire} {m i k : Nat} (hk : k < 5) (h : (war l m i m && war l m m k) = false) : ∀ p, p < 25 → warMid l m i k p = warMid l m i (k + 1) p := by
  intro p hp
  by_cases e : p = i * 5 + k
  · subst e
    unfold warMid
    rw [show (i * 5 + k) / 5 = i by omega, show (i * 5 + k) % 5 = k by omega, if_neg (by omega), if_pos (.inr ⟨rfl, by omega⟩)]
    simp [war, h]
  · unfold warMid
    have : (p / 5 < i ∨ (p / 5 = i ∧ p % 5 < k)) ↔ (p / 5 < i ∨ (p / 5 = i ∧ p % 5 < k + 1)) := by omega
    simp only [this]
theorem warMid_next (l : List Wire) (m i : Nat) : ∀ p, p < 25 → warMid l m i 5 p = warMid l m (i + 1) 0 p := by
  intro p hp
  unfold warMid
  have : (p / 5 < i ∨ (p / 5 = i ∧ p % 5 < 5)) ↔ (p / 5 < i + 1 ∨ (p / 5 = i + 1 ∧ p % 5 < 0)) := by omega
  simp only [this]
theorem warMid_end (l : List Wire) (m : Nat) : ∀ p, p < 25 → warMid l m 5 0 p = warMid l (m + 1) 0 0 p := by
  intro p hp
  unfold warMid
  rw [if_pos (.inl (by omega)), if_neg (by omega)]
/-- Ahead of all: each room itself, and k wires. -/
def warIn (l : List Wire) (k : Nat) : Nat → Bool := fun p => decide (p / 5 = p % 5) || (l.take k).any fun x => decide (x.fr.toNat = p / 5 ∧ x.to.toNat = p % 5)
theorem warIn_next {l : List Wire} {k : Nat} {x : Wire} (h : l[k]? = some x) (ht : x.to.toNat < 5) : ∀ p, p < 25 → upd (warIn l k) (x.fr.toNat * 5 + x.to.toNat) p = warIn l (k + 1) p := by
  intro p hp
  have hk := (List.getElem?_eq_some_iff.1 h).1
  have hx : l[k] = x := by rw [List.getElem?_eq_getElem hk] at h; exact Option.some.inj h
  unfold warIn
  rw [List.take_succ_eq_append_getElem hk, List.any_append, hx]
  by_cases e : p = x.fr.toNat * 5 + x.to.toNat
  · subst e
    rw [upd_same]
    simp [show (x.fr.toNat * 5 + x.to.toNat) / 5 = x.fr.toNat by omega, show (x.fr.toNat * 5 + x.to.toNat) % 5 = x.to.toNat by omega]
  · rw [upd_other e]
    have : decide (x.fr.toNat = p / 5 ∧ x.to.toNat = p % 5) = false := decide_eq_false (by omega)
    simp only [List.any_cons, List.any_nil, this, Bool.or_false]
theorem warIn_all {l : List Wire} (hr : InRooms l) : ∀ p, p < 25 → warIn l l.length p = warMid l 0 0 0 p := by
  intro p hp
  unfold warIn warMid
  rw [if_neg (by omega), List.take_length, war]
  congr 1
  rw [Bool.eq_iff_iff, List.any_eq_true, edgeB_iff]
  constructor
  · rintro ⟨x, hx, h⟩
    have := hr x hx
    simp only [decide_eq_true_eq] at h
    exact ⟨x, hx, by omega, by omega⟩
  · rintro ⟨x, hx, h1, h2⟩
    exact ⟨x, hx, by simp only [decide_eq_true_eq]; omega⟩
theorem warMid_done {l : List Wire} (hr : InRooms l) : ∀ p, p < 25 → warMid l 5 0 0 p = reachB l (p / 5) (p % 5) := by
  intro p hp
  unfold warMid
  rw [if_neg (by omega), war_all hr]
/-- Each room itself, the first i. -/
def selfIn (i : Nat) : Nat → Bool := fun p => decide (p / 5 = p % 5 ∧ p / 5 < i)
theorem selfIn_next {i : Nat} (hi : i < 5) : ∀ p, p < 25 → upd (selfIn i) (i * 5 + i) p = selfIn (i + 1) p := by
  intro p hp
  unfold selfIn
  by_cases e : p = i * 5 + i
  · subst e; rw [upd_same, decide_eq_true (by omega)]
  · rw [upd_other e, decide_eq_decide]; omega
theorem selfIn_all (l : List Wire) : ∀ p, p < 25 → selfIn 5 p = warIn l 0 p := by
  intro p hp
  simp only [selfIn, warIn, List.take_zero, List.any_nil, Bool.or_false]
  rw [decide_eq_decide]; omega
end Go.Proofs.YtongkiccglaniaaDoor
