/- Gaps of a room in a frame that comes again and again: plain laws. -/
import Derived.Test.YtfokcjooibmigaaDoorFrameLaw
namespace Go.Proofs.YtfokcjooibmigaaDoor
open Go.RowKit
set_option maxRecDepth 100000

/-- One hit, and the next one. -/
def Cons (h : Nat → Bool) (u v : Nat) : Prop := u < v ∧ h u = true ∧ h v = true ∧ ∀ i, u < i → i < v → h i = false
theorem Cons.uniq {h : Nat → Bool} {u v x : Nat} (a : Cons h u v) (b : Cons h u x) : v = x := by
  rcases Nat.lt_trichotomy v x with hl | hl | hl
  · have := b.2.2.2 v a.1 hl; rw [a.2.2.1] at this; cases this
  · exact hl
  · have := a.2.2.2 x b.1 hl; rw [b.2.2.1] at this; cases this
/-- From any tick on the first hit that there is. -/
theorem first_hit (h : Nat → Bool) (t : Nat) : ∀ d, h (t + d) = true → ∃ v, t ≤ v ∧ v ≤ t + d ∧ h v = true ∧ ∀ i, t ≤ i → i < v → h i = false
  | 0, hd => ⟨t, Nat.le_refl _, by omega, hd, fun i h1 h2 => absurd h2 (by omega)⟩
  | d + 1, hd => by
    by_cases hx : ∃ i, i ≤ d ∧ h (t + i) = true
    · obtain ⟨i, hi, hh⟩ := hx
      obtain ⟨v, h1, h2, h3, h4⟩ := first_hit_le h t d i hi hh
      exact ⟨v, h1, by omega, h3, h4⟩
    · refine ⟨t + (d + 1), by omega, Nat.le_refl _, hd, fun i h1 h2 => ?_⟩
      cases hh : h i with
      | false => rfl
      | true => exact absurd ⟨i - t, by omega, by rw [show t + (i - t) = i by omega]; exact hh⟩ hx
where
  first_hit_le (h : Nat → Bool) (t : Nat) : ∀ d i, i ≤ d → h (t + i) = true → ∃ v, t ≤ v ∧ v ≤ t + d ∧ h v = true ∧ ∀ i, t ≤ i → i < v → h i = false
    | d, 0, _, hh => ⟨t, Nat.le_refl _, by omega, hh, fun i h1 h2 => absurd h2 (by omega)⟩
    | d, i + 1, hi, hh => by
      by_cases hx : ∃ j, j ≤ i ∧ h (t + j) = true
      · obtain ⟨j, hj, hjj⟩ := hx
        obtain ⟨v, h1, h2, h3, h4⟩ := first_hit_le h t i j hj hjj
        exact ⟨v, h1, by omega, h3, h4⟩
      · refine ⟨t + (i + 1), by omega, by omega, hh, fun j h1 h2 => ?_⟩
        cases hjj : h j with
        | false => rfl
        | true => exact absurd ⟨j - t, by omega, by rw [show t + (j - t) = j by omega]; exact hjj⟩ hx

section
variable {h : Nat → Bool} {T : Nat} (hp : ∀ t, h (t + T) = h t) (hT : 0 < T)
include hp
theorem per_add (t : Nat) : ∀ q, h (t + q * T) = h t
  | 0 => by simp
  | q + 1 => by rw [Nat.succ_mul, ← Nat.add_assoc, hp, per_add t q]
theorem Cons.up {u v : Nat} (c : Cons h u v) (q : Nat) : Cons h (u + q * T) (v + q * T) := by
  refine ⟨by have := c.1; omega, by rw [per_add hp]; exact c.2.1, by rw [per_add hp]; exact c.2.2.1, fun i h1 h2 => ?_⟩
  have := c.2.2.2 (i - q * T) (by omega) (by omega)
  rw [← per_add hp _ q, show i - q * T + q * T = i by omega] at this
  exact this
theorem Cons.down {u v : Nat} {q : Nat} (c : Cons h (u + q * T) (v + q * T)) : Cons h u v := by
  refine ⟨by have := c.1; omega, by have := c.2.1; rw [per_add hp] at this; exact this, by have := c.2.2.1; rw [per_add hp] at this; exact this, fun i h1 h2 => ?_⟩
  have := c.2.2.2 (i + q * T) (by omega) (by omega)
  rw [per_add hp] at this
  exact this
/-- Each hit has a next one, within a frame. -/
theorem Cons.next (hT : 0 < T) {u : Nat} (hu : h u = true) : ∃ v, Cons h u v ∧ v ≤ u + T := by
  obtain ⟨v, h1, h2, h3, h4⟩ := first_hit h (u + 1) (T - 1) (by rw [show u + 1 + (T - 1) = u + T by omega, hp]; exact hu)
  exact ⟨v, ⟨by omega, hu, h3, fun i h5 h6 => h4 i (by omega) h6⟩, by omega⟩
theorem Cons.within (hT : 0 < T) {u v : Nat} (c : Cons h u v) : v ≤ u + T := by
  obtain ⟨x, cx, hx⟩ := Cons.next hp hT c.2.1
  rw [c.uniq cx]; exact hx
/-- Down to the first frame. -/
theorem Cons.base (hT : 0 < T) {u v : Nat} (c : Cons h u v) : ∃ u0 v0, u0 < T ∧ Cons h u0 v0 ∧ v0 - u0 = v - u := by
  have h1 := Nat.mod_add_div u T
  rw [Nat.mul_comm] at h1
  have h2 := Nat.mod_lt u hT
  have h3 := c.1
  refine ⟨u % T, v - u / T * T, h2, Cons.down hp (q := u / T) ?_, by omega⟩
  rw [h1, show v - u / T * T + u / T * T = v by omega]
  exact c
end

/-- Behind k ticks: the last hit, and the widest gap. -/
def GapRel (h : Nat → Bool) (k : Nat) (last most : Int) : Prop :=
  ((last = -1 ∧ ∀ i, i < k → h i = false) ∨ ∃ u : Nat, last = u ∧ u < k ∧ h u = true ∧ ∀ i, u < i → i < k → h i = false) ∧
  (∀ u v, Cons h u v → v < k → ((v : Int) - u) ≤ most) ∧ (most = 0 ∨ ∃ u v, Cons h u v ∧ v < k ∧ most = (v : Int) - u)
theorem gap_rel (l : List Span) (T : Nat) (room : Int) : ∀ k, GapRel (hitB l T room) k (gapSt T l room k).1 (gapSt T l room k).2
  | 0 => ⟨.inl ⟨rfl, fun i hi => absurd hi (by omega)⟩, fun u v _ h => absurd h (by omega), .inl rfl⟩
  | k + 1 => by
    obtain ⟨h1, h2, h3⟩ := gap_rel l T room k
    have hk : hitB l T room k = decide (turnAt l ((k : Int) % (T : Int)) = room) := rfl
    unfold gapSt
    by_cases hh : turnAt l ((k : Int) % (T : Int)) = room
    · rw [decide_eq_true hh] at hk
      rw [if_pos hh]
      rcases h1 with ⟨e1, hno⟩ | ⟨u, e1, hu, hhu, hno⟩
      · rw [if_neg (by omega)]
        refine ⟨.inr ⟨k, rfl, by omega, hk, fun i a b => absurd b (by omega)⟩, fun u v c hv => ?_, ?_⟩
        · have h4 := hno u (by have := c.1; omega)
          rw [c.2.1] at h4; cases h4
        · rcases h3 with h3 | ⟨u, v, c, hv, e⟩
          · exact .inl h3
          · exact .inr ⟨u, v, c, by omega, e⟩
      · rw [if_pos (by omega)]
        have hc : Cons (hitB l T room) u k := ⟨hu, hhu, hk, hno⟩
        simp only []
        refine ⟨.inr ⟨k, rfl, by omega, hk, fun i a b => absurd b (by omega)⟩, fun x v c hv => ?_, ?_⟩
        · by_cases e : v = k
          · subst e
            have : x = u := by
              rcases Nat.lt_trichotomy x u with hl | hl | hl
              · have := c.2.2.2 u hl hu; rw [hhu] at this; cases this
              · exact hl
              · have := hno x hl c.1; rw [c.2.1] at this; cases this
            subst this
            omega
          · have := h2 x v c (by omega); omega
        · by_cases hm : (k : Int) - (gapSt T l room k).1 ≤ (gapSt T l room k).2
          · rw [Int.max_eq_left hm]
            rcases h3 with h3 | ⟨x, v, c, hv, e⟩
            · rw [h3] at hm; omega
            · exact .inr ⟨x, v, c, by omega, e⟩
          · rw [Int.max_eq_right (by omega)]
            exact .inr ⟨u, k, hc, by omega, by rw [e1]⟩
    · rw [decide_eq_false hh] at hk
      rw [if_neg hh]
      refine ⟨?_, fun u v c hv => ?_, ?_⟩
      · rcases h1 with ⟨e1, hno⟩ | ⟨u, e1, hu, hhu, hno⟩
        · exact .inl ⟨e1, fun i hi => by
            by_cases e : i = k
            · subst e; exact hk
            · exact hno i (by omega)⟩
        · exact .inr ⟨u, e1, by omega, hhu, fun i a b => by
            by_cases e : i = k
            · subst e; exact hk
            · exact hno i a (by omega)⟩
      · by_cases e : v = k
        · subst e; have := c.2.2.1; rw [hk] at this; cases this
        · exact h2 u v c (by omega)
      · rcases h3 with h3 | ⟨x, v, c, hv, e⟩
        · exact .inl h3
        · exact .inr ⟨x, v, c, by omega, e⟩
theorem cnt_pos_hit {h : Nat → Bool} : ∀ {m : Nat}, 0 < cntH h 0 m → ∃ i, i < m ∧ h i = true
  | 0, hc => by simp [cntH_zero] at hc
  | m + 1, hc => by
    rw [cntH_succ, Nat.zero_add] at hc
    cases hh : h m with
    | true => exact ⟨m, by omega, hh⟩
    | false =>
      rw [hh] at hc
      obtain ⟨i, hi, h2⟩ := cnt_pos_hit (h := h) (m := m) (by simpa using hc)
      exact ⟨i, by omega, h2⟩
theorem cnt_zero_no {h : Nat → Bool} : ∀ {m : Nat}, cntH h 0 m = 0 → ∀ i, i < m → h i = false
  | m + 1, hc, i, hi => by
    rw [cntH_succ, Nat.zero_add] at hc
    cases hm : h m with
    | true => rw [hm] at hc; simp at hc
    | false =>
      by_cases e : i = m
      · subst e; exact hm
      · exact cnt_zero_no (h := h) (m := m) (by omega) i (by omega)

/-- What a gap is: as wide as that from a hit to the next one is anywhere. -/
def IsGap (h : Nat → Bool) (g : Int) : Prop := (∀ u v, Cons h u v → (v : Int) - u ≤ g) ∧ ∃ u v, Cons h u v ∧ g = (v : Int) - u
theorem IsGap.eq {h : Nat → Bool} {g g' : Int} (a : IsGap h g) (b : IsGap h g') : g = g' := by
  obtain ⟨u, v, c, e⟩ := a.2
  obtain ⟨x, y, d, f⟩ := b.2
  have := a.1 x y d
  have := b.1 u v c
  omega
theorem gap_is {T : Nat} {l : List Span} {room : Int} (hT : 0 < T) (hc : 0 < cntH (hitB l T room) 0 T) : IsGap (hitB l T room) (gapSt T l room (2 * T)).2 := by
  obtain ⟨h1, h2, h3⟩ := gap_rel l T room (2 * T)
  have hp := hitB_again l T room
  have all : ∀ u v, Cons (hitB l T room) u v → (v : Int) - u ≤ (gapSt T l room (2 * T)).2 := by
    intro u v c
    obtain ⟨u0, v0, hu0, c0, e⟩ := c.base hp hT
    have := c0.within hp hT
    have h5 := h2 u0 v0 c0 (by omega)
    have := c.1
    have := c0.1
    omega
  refine ⟨all, ?_⟩
  rcases h3 with h3 | ⟨u, v, c, _, e⟩
  · obtain ⟨i, hi, hh⟩ := cnt_pos_hit hc
    obtain ⟨v, c, _⟩ := Cons.next hp hT hh
    have := all i v c
    have := c.1
    omega
  · exact ⟨u, v, c, e⟩
theorem gap_none {T : Nat} {l : List Span} {room : Int} (_hT : 0 < T) : (gapSt T l room (2 * T)).1 < 0 ↔ cntH (hitB l T room) 0 T = 0 := by
  obtain ⟨h1, _, _⟩ := gap_rel l T room (2 * T)
  constructor
  · intro h
    rcases h1 with ⟨_, hno⟩ | ⟨u, e, _⟩
    · rcases Nat.eq_zero_or_pos (cntH (hitB l T room) 0 T) with h0 | h0
      · exact h0
      · obtain ⟨i, hi, hh⟩ := cnt_pos_hit h0
        rw [hno i (by omega)] at hh; cases hh
    · omega
  · intro h
    rcases h1 with ⟨e, _⟩ | ⟨u, e, hu, hhu, _⟩
    · omega
    · have h2 := cnt_zero_no h (u % T) (Nat.mod_lt _ _hT)
      have h3 := per_add (hitB_again l T room) (u % T) (u / T)
      have h4 := Nat.mod_add_div u T
      rw [Nat.mul_comm] at h4
      rw [h4, h2, hhu] at h3
      cases h3
theorem IsGap.bounds {h : Nat → Bool} {T : Nat} {g : Int} (hp : ∀ t, h (t + T) = h t) (hT : 0 < T) (a : IsGap h g) : 1 ≤ g ∧ g ≤ T := by
  obtain ⟨u, v, c, e⟩ := a.2
  have := c.1
  have := c.within hp hT
  omega
/-- From each tick on there is a hit within a gap. -/
theorem IsGap.hit {h : Nat → Bool} {T : Nat} {g : Int} (hp : ∀ t, h (t + T) = h t) (hT : 0 < T) (a : IsGap h g) (t : Nat) : ∃ k : Nat, (k : Int) < g ∧ h (t + k) = true := by
  obtain ⟨u, v, c, _⟩ := a.2
  -- a hit ahead of t + T * (u + 1), and the next one
  have hb := a.bounds hp hT
  by_cases ht : h t = true
  · exact ⟨0, by omega, ht⟩
  · -- a hit before s := t + (u + 1) * T: u + n * T for some n
    have hmul : u + 1 ≤ (u + 1) * T := Nat.le_mul_of_pos_right _ hT
    have key : ∀ d s, h (s - d) = true → d ≤ s → ∃ x, x ≤ s ∧ h x = true ∧ ∀ i, x < i → i ≤ s → h i = false := by
      intro d
      induction d with
      | zero => intro s h1 _; exact ⟨s, Nat.le_refl _, h1, fun i a b => absurd b (by omega)⟩
      | succ d ih =>
        intro s h1 h2
        cases hs : h s with
        | true => exact ⟨s, Nat.le_refl _, hs, fun i a b => absurd b (by omega)⟩
        | false =>
          obtain ⟨x, h3, h4, h5⟩ := ih (s - 1) (by rw [show s - 1 - d = s - (d + 1) by omega]; exact h1) (by omega)
          exact ⟨x, by omega, h4, fun i a b => by
            by_cases e : i = s
            · subst e; exact hs
            · exact h5 i a (by omega)⟩
    obtain ⟨x, hx1, hx2, hx3⟩ := key (t + (u + 1) * T - u) (t + (u + 1) * T) (by rw [show t + (u + 1) * T - (t + (u + 1) * T - u) = u by omega]; exact c.2.1) (by omega)
    obtain ⟨y, cy, _⟩ := Cons.next hp hT hx2
    have hy : t + (u + 1) * T < y := by
      rcases Nat.lt_or_ge (t + (u + 1) * T) y with h1 | h1
      · exact h1
      · have := hx3 y cy.1 h1; rw [cy.2.2.1] at this; cases this
    have hne : x ≠ t + (u + 1) * T := by
      intro e
      rw [e, per_add hp] at hx2
      exact ht hx2
    have := a.1 x y cy
    refine ⟨y - (t + (u + 1) * T), by omega, ?_⟩
    have h6 := per_add hp (t + (y - (t + (u + 1) * T))) (u + 1)
    rw [← h6, show t + (y - (t + (u + 1) * T)) + (u + 1) * T = y by omega]
    exact cy.2.2.1
/-- The widest of those that begin in the first k ticks. -/
def WideTo (h : Nat → Bool) (k : Nat) (g : Int) : Prop := (∀ u v, u < k → Cons h u v → (v : Int) - u ≤ g) ∧ (g = 0 ∨ ∃ u v, Cons h u v ∧ g = (v : Int) - u)
theorem WideTo.gap {h : Nat → Bool} {T : Nat} {g : Int} (hp : ∀ t, h (t + T) = h t) (hT : 0 < T) (hc : 0 < cntH h 0 T) (a : WideTo h T g) : IsGap h g := by
  have all : ∀ u v, Cons h u v → (v : Int) - u ≤ g := by
    intro u v c
    obtain ⟨u0, v0, hu0, c0, e⟩ := c.base hp hT
    have := a.1 u0 v0 hu0 c0
    have := c.1
    have := c0.1
    omega
  refine ⟨all, ?_⟩
  rcases a.2 with h0 | h0
  · obtain ⟨i, hi, hh⟩ := cnt_pos_hit hc
    obtain ⟨v, c, _⟩ := Cons.next hp hT hh
    have := all i v c
    have := c.1
    omega
  · exact h0
end Go.Proofs.YtfokcjooibmigaaDoor
