/- Rings of rooms that reach one another: plain laws. -/
import Derived.Test.YtfokcjooibmigaaDoorReach
namespace Go.Proofs.YtfokcjooibmigaaDoor

noncomputable def sameB (l : List Wire) (a b : Nat) : Bool := reachB l a b && reachB l b a
theorem sameB_iff {l : List Wire} {a b : Nat} : sameB l a b = true ↔ Reach l a b ∧ Reach l b a := by simp [sameB, reachB_iff]
theorem sameB_self (l : List Wire) (a : Nat) : sameB l a a = true := sameB_iff.2 ⟨.refl, .refl⟩
theorem sameB_symm {l : List Wire} {a b : Nat} (h : sameB l a b = true) : sameB l b a = true := by rw [sameB_iff] at *; exact ⟨h.2, h.1⟩
theorem sameB_trans {l : List Wire} {a b c : Nat} (h : sameB l a b = true) (k : sameB l b c = true) : sameB l a c = true := by rw [sameB_iff] at *; exact ⟨h.1.trans k.1, k.2.trans h.2⟩

/-- Which rooms are done, behind the first k. -/
noncomputable def doneB (l : List Wire) : Nat → Nat → Bool
  | 0, _ => false
  | k + 1, b => doneB l k b || (!doneB l k k && sameB l k b)
noncomputable def ringTo (l : List Wire) (a : Nat) : Nat → List Int
  | 0 => []
  | j + 1 => ringTo l a j ++ (if sameB l a j then [(j : Int)] else [])
noncomputable def ringsTo (l : List Wire) : Nat → List (List Int)
  | 0 => []
  | k + 1 => ringsTo l k ++ (if doneB l k k then [] else [ringTo l k 5])

theorem ringTo_mem {l : List Wire} {a : Nat} {x : Int} : ∀ {j : Nat}, x ∈ ringTo l a j ↔ ∃ b : Nat, b < j ∧ x = b ∧ sameB l a b = true
  | 0 => by simp [ringTo]
  | j + 1 => by
    rw [ringTo, List.mem_append, ringTo_mem (j := j)]
    constructor
    · rintro (⟨b, h1, h2, h3⟩ | h)
      · exact ⟨b, by omega, h2, h3⟩
      · split at h
        · rename_i hs; simp at h; exact ⟨j, by omega, h, hs⟩
        · simp at h
    · rintro ⟨b, h1, h2, h3⟩
      by_cases e : b = j
      · subst e; right; rw [if_pos h3]; simp [h2]
      · exact .inl ⟨b, by omega, h2, h3⟩
theorem ringTo_len (l : List Wire) (a : Nat) : ∀ j, (ringTo l a j).length ≤ j
  | 0 => Nat.le_refl _
  | j + 1 => by rw [ringTo, List.length_append]; have := ringTo_len l a j; split <;> simp <;> omega
theorem doneB_iff {l : List Wire} {b : Nat} : ∀ {k : Nat}, doneB l k b = true ↔ ∃ a, a < k ∧ sameB l a b = true
  | 0 => by simp [doneB]
  | k + 1 => by
    simp only [doneB, Bool.or_eq_true, Bool.and_eq_true, Bool.not_eq_true']
    rw [doneB_iff (k := k)]
    constructor
    · rintro (⟨a, h1, h2⟩ | ⟨_, h⟩)
      · exact ⟨a, by omega, h2⟩
      · exact ⟨k, by omega, h⟩
    · rintro ⟨a, h1, h2⟩
      by_cases e : a = k
      · subst e
        cases hd : doneB l a a with
        | false => exact .inr ⟨rfl, h2⟩
        | true =>
          obtain ⟨a', h3, h4⟩ := doneB_iff.1 hd
          exact .inl ⟨a', h3, sameB_trans h4 h2⟩
      · exact .inl ⟨a, by omega, h2⟩
theorem ringsTo_len (l : List Wire) : ∀ k, (ringsTo l k).length ≤ k
  | 0 => Nat.le_refl _
  | k + 1 => by rw [ringsTo, List.length_append]; have := ringsTo_len l k; split <;> simp <;> omega
/-- A ring is that of a room, and all rooms of it are in it. -/
theorem ringsTo_get {l : List Wire} : ∀ {k i : Nat} {g : List Int}, (ringsTo l k)[i]? = some g → ∃ a, a < k ∧ g = ringTo l a 5 ∧ doneB l a a = false
  | 0, i, g, h => by simp [ringsTo] at h
  | k + 1, i, g, h => by
    rw [ringsTo, List.getElem?_append] at h
    split at h
    · obtain ⟨a, h1, h2⟩ := ringsTo_get h; exact ⟨a, by omega, h2⟩
    · split at h
      · simp at h
      · rename_i hd
        have : i - (ringsTo l k).length = 0 := by
          have := (List.getElem?_eq_some_iff.1 h).1; simp at this; omega
        rw [this] at h; simp at h
        exact ⟨k, by omega, h.symm, by simpa using hd⟩
/-- Rooms of different rings are not the same. -/
theorem ringsTo_apart {l : List Wire} : ∀ {k i j : Nat} {g h : List Int} {x y : Nat}, (ringsTo l k)[i]? = some g → (ringsTo l k)[j]? = some h → (x : Int) ∈ g → (y : Int) ∈ h → sameB l x y = true → i = j
  | 0, i, j, g, h, x, y, hg, _, _, _, _ => by simp [ringsTo] at hg
  | k + 1, i, j, g, h, x, y, hg, hh, hx, hy, hs => by
    have key : ∀ {i : Nat} {g : List Int} {x : Nat} {y : Nat}, (ringsTo l k)[i]? = some g → (x : Int) ∈ g → (y : Int) ∈ ringTo l k 5 → doneB l k k = false → sameB l x y = true → False := by
      intro i g x y hg hx hy hd hs
      obtain ⟨a, h1, rfl, h3⟩ := ringsTo_get hg
      obtain ⟨b, _, h4, h5⟩ := ringTo_mem.1 hx
      obtain ⟨c, _, h6, h7⟩ := ringTo_mem.1 hy
      have hbx : b = x := by omega
      have hcy : c = y := by omega
      subst hbx; subst hcy
      have : doneB l k k = true := doneB_iff.2 ⟨a, h1, sameB_trans (sameB_trans h5 hs) (sameB_symm h7)⟩
      rw [this] at hd; cases hd
    rw [ringsTo, List.getElem?_append] at hg hh
    split at hg
    · split at hh
      · exact ringsTo_apart hg hh hx hy hs
      · split at hh
        · simp at hh
        · rename_i hd
          have e0 : j - (ringsTo l k).length = 0 := by have := (List.getElem?_eq_some_iff.1 hh).1; simp at this; omega
          rw [e0] at hh; simp at hh; subst hh
          exact (key hg hx hy (by simpa using hd) hs).elim
    · split at hh
      · split at hg
        · simp at hg
        · rename_i hd
          have e0 : i - (ringsTo l k).length = 0 := by have := (List.getElem?_eq_some_iff.1 hg).1; simp at this; omega
          rw [e0] at hg; simp at hg; subst hg
          exact (key hh hy hx (by simpa using hd) (sameB_symm hs)).elim
      · split at hg
        · simp at hg
        · rename_i hd
          rw [if_neg hd] at hh
          have e0 : i - (ringsTo l k).length = 0 := by have := (List.getElem?_eq_some_iff.1 hg).1; simp at this; omega
          have e1 : j - (ringsTo l k).length = 0 := by have := (List.getElem?_eq_some_iff.1 hh).1; simp at this; omega
          omega
/-- Each room is in a ring. -/
theorem ringsTo_all {l : List Wire} : ∀ {k a : Nat}, a < k → k ≤ 5 → ∃ (i : Nat) (g : List Int), (ringsTo l k)[i]? = some g ∧ (a : Int) ∈ g
  | 0, a, h, _ => by omega
  | k + 1, a, h, h5 => by
    by_cases e : a = k
    · subst e
      cases hd : doneB l a a with
      | false =>
        refine ⟨(ringsTo l a).length, ringTo l a 5, ?_, ringTo_mem.2 ⟨a, by omega, rfl, sameB_self l a⟩⟩
        rw [ringsTo, hd, List.getElem?_append_right (Nat.le_refl _)]; simp
      | true =>
        obtain ⟨a', h1, h2⟩ := doneB_iff.1 hd
        obtain ⟨i, g, h3, h4⟩ := ringsTo_all (l := l) h1 (by omega)
        obtain ⟨a0, g1, rfl, g3⟩ := ringsTo_get h3
        obtain ⟨b, _, g4, g5⟩ := ringTo_mem.1 h4
        have : b = a' := by omega
        subst this
        refine ⟨i, ringTo l a0 5, ?_, ringTo_mem.2 ⟨a, by omega, rfl, sameB_trans g5 h2⟩⟩
        rw [ringsTo, List.getElem?_append_left (List.getElem?_eq_some_iff.1 h3).1]; exact h3
    · obtain ⟨i, g, h1, h2⟩ := ringsTo_all (l := l) (show a < k by omega) (by omega)
      refine ⟨i, g, ?_, h2⟩
      rw [ringsTo, List.getElem?_append_left (List.getElem?_eq_some_iff.1 h1).1]; exact h1
end Go.Proofs.YtfokcjooibmigaaDoor
