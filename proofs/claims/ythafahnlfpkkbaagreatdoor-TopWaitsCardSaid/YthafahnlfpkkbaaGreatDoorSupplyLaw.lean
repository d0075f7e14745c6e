/- Turns of a room in a frame that comes again and again: how many there are, how many at least, how long at most. Plain laws, no program in sight. -/
import Derived.Test.YthafahnlfpkkbaaGreatDoorBaseU
namespace Go.Proofs.YthafahnlfpkkbaaGreatDoor

/-- How many of m ticks from f on are hits. -/
def cntH (h : Nat → Bool) (f m : Nat) : Nat := ((List.range m).filter fun i => h (f + i)).length
theorem cntH_zero (h : Nat → Bool) (f : Nat) : cntH h f 0 = 0 := rfl
theorem cntH_succ (h : Nat → Bool) (f m : Nat) : cntH h f (m + 1) = cntH h f m + (h (f + m)).toNat := by
  unfold cntH
  rw [List.range_succ, List.filter_append, List.length_append]
  cases hh : h (f + m) <;> simp [hh]
theorem cntH_le (h : Nat → Bool) (f : Nat) : ∀ m, cntH h f m ≤ m
  | 0 => Nat.le_refl _
  | m + 1 => by rw [cntH_succ]; have := cntH_le h f m; have := Bool.toNat_le (h (f + m)); omega
theorem cntH_add (h : Nat → Bool) (f a : Nat) : ∀ b, cntH h f (a + b) = cntH h f a + cntH h (f + a) b
  | 0 => by simp [cntH_zero]
  | b + 1 => by rw [← Nat.add_assoc, cntH_succ, cntH_add h f a b, cntH_succ, Nat.add_assoc f a b]; omega
theorem cntH_front (h : Nat → Bool) (f m : Nat) : cntH h f (m + 1) = (h f).toNat + cntH h (f + 1) m := by
  rw [Nat.add_comm m 1, cntH_add, cntH_succ, cntH_zero]; simp
section
variable {h : Nat → Bool} {T : Nat} (hp : ∀ t, h (t + T) = h t)
include hp
theorem cntH_shift (f : Nat) : ∀ m, cntH h (f + T) m = cntH h f m
  | 0 => rfl
  | m + 1 => by rw [cntH_succ, cntH_succ, cntH_shift f m, show f + T + m = f + m + T by omega, hp]
theorem cntH_T : ∀ f, cntH h f T = cntH h 0 T
  | 0 => rfl
  | f + 1 => by
    have h1 := cntH_front h f T
    rw [cntH_succ, hp] at h1
    have := cntH_T f
    omega
theorem cntH_whole (f r : Nat) : ∀ q, cntH h f (q * T + r) = q * cntH h 0 T + cntH h f r
  | 0 => by simp
  | q + 1 => by
    rw [show (q + 1) * T + r = T + (q * T + r) by rw [Nat.succ_mul]; omega, cntH_add, cntH_T hp, cntH_shift hp, cntH_whole f r q, Nat.succ_mul]; omega
theorem cntH_div (f m : Nat) : m / T * cntH h 0 T + cntH h f (m % T) = cntH h f m := by
  rw [← cntH_whole hp]
  congr 1
  rw [Nat.mul_comm]; exact Nat.div_add_mod m T
theorem cntH_far (f m : Nat) : ∀ q, cntH h (f + q * T) m = cntH h f m
  | 0 => by simp
  | q + 1 => by rw [Nat.succ_mul, ← Nat.add_assoc, cntH_shift hp, cntH_far f m q]
theorem cntH_mod (f m : Nat) : cntH h (f % T) m = cntH h f m := by
  have := cntH_far hp (f % T) m (f / T)
  rw [← this]
  congr 1
  rw [Nat.mul_comm]; exact Nat.mod_add_div f T
end

/-- The least of m and of what m ticks from each of k on give. -/
def leastTo (h : Nat → Bool) (m k : Nat) : Nat := (List.range k).foldl (fun n f => min n (cntH h f m)) m
theorem leastTo_zero (h : Nat → Bool) (m : Nat) : leastTo h m 0 = m := rfl
theorem leastTo_succ (h : Nat → Bool) (m k : Nat) : leastTo h m (k + 1) = min (leastTo h m k) (cntH h k m) := by
  unfold leastTo; rw [List.range_succ, List.foldl_append]; rfl
theorem leastTo_m (h : Nat → Bool) (m : Nat) : ∀ k, leastTo h m k ≤ m
  | 0 => Nat.le_refl _
  | k + 1 => by rw [leastTo_succ]; have := leastTo_m h m k; omega
theorem leastTo_le (h : Nat → Bool) (m : Nat) : ∀ k f, f < k → leastTo h m k ≤ cntH h f m
  | k + 1, f, hf => by
    rw [leastTo_succ]
    by_cases e : f = k
    · subst e; omega
    · have := leastTo_le h m k f (by omega); omega
theorem leastTo_ex (h : Nat → Bool) (m : Nat) : ∀ k, leastTo h m k = m ∨ ∃ f, f < k ∧ leastTo h m k = cntH h f m
  | 0 => .inl rfl
  | k + 1 => by
    rw [leastTo_succ]
    by_cases e : cntH h k m ≤ leastTo h m k
    · exact .inr ⟨k, by omega, by omega⟩
    · rcases leastTo_ex h m k with h1 | ⟨f, h1, h2⟩
      · exact .inl (by omega)
      · exact .inr ⟨f, by omega, by omega⟩
/-- The least turns in m ticks, wherever they begin. -/
def leastH (h : Nat → Bool) (T m : Nat) : Nat := leastTo h m T
theorem leastH_ex {h : Nat → Bool} {T : Nat} (hT : 0 < T) (m : Nat) : ∃ f, f < T ∧ leastH h T m = cntH h f m := by
  rcases leastTo_ex h m T with h1 | h1
  · have h2 := leastTo_le h m T 0 hT
    have h3 := cntH_le h 0 m
    exact ⟨0, hT, by unfold leastH; omega⟩
  · exact h1
theorem leastH_le {h : Nat → Bool} {T : Nat} (hp : ∀ t, h (t + T) = h t) (hT : 0 < T) (m f : Nat) : leastH h T m ≤ cntH h f m := by
  rw [← cntH_mod hp f m]
  exact leastTo_le h m T _ (Nat.mod_lt _ hT)
theorem leastH_m (h : Nat → Bool) (T m : Nat) : leastH h T m ≤ m := leastTo_m h m T
theorem leastH_up {h : Nat → Bool} {T : Nat} (hT : 0 < T) (m : Nat) : leastH h T m ≤ leastH h T (m + 1) ∧ leastH h T (m + 1) ≤ leastH h T m + 1 := by
  obtain ⟨f, hf, h1⟩ := leastH_ex (h := h) hT m
  obtain ⟨g, hg, h2⟩ := leastH_ex (h := h) hT (m + 1)
  have h3 := leastTo_le h m T g hg
  have h4 := leastTo_le h (m + 1) T f hf
  have h5 := cntH_succ h f m
  have h6 := cntH_succ h g m
  have h7 := Bool.toNat_le (h (f + m))
  unfold leastH at *
  omega
theorem leastH_mono {h : Nat → Bool} {T : Nat} (hT : 0 < T) {m k : Nat} (hmk : m ≤ k) : leastH h T m ≤ leastH h T k := by
  induction hmk with
  | refl => exact Nat.le_refl _
  | step _ ih => exact Nat.le_trans ih (leastH_up hT _).1
theorem leastH_whole {h : Nat → Bool} {T : Nat} (hp : ∀ t, h (t + T) = h t) (hT : 0 < T) (q : Nat) : leastH h T (q * T) = q * cntH h 0 T := by
  obtain ⟨f, hf, h1⟩ := leastH_ex (h := h) hT (q * T)
  rw [h1]
  have := cntH_whole hp f 0 q
  simpa [cntH_zero] using this
/-- As many ticks as it waits for n turns. -/
def Waits (h : Nat → Bool) (T n w : Nat) : Prop := n ≤ leastH h T w ∧ (0 < w → leastH h T (w - 1) < n)
theorem Waits.eq {h : Nat → Bool} {T n w v : Nat} (hT : 0 < T) (a : Waits h T n w) (b : Waits h T n v) : w = v := by
  rcases Nat.lt_trichotomy w v with hl | hl | hl
  · have h1 := b.2 (by omega)
    have h2 := leastH_mono (h := h) hT (show w ≤ v - 1 by omega)
    have := a.1
    omega
  · exact hl
  · have h1 := a.2 (by omega)
    have h2 := leastH_mono (h := h) hT (show v ≤ w - 1 by omega)
    have := b.1
    omega
/-- The first one is in reach: whole frames, and a frame more. -/
theorem waits_end {h : Nat → Bool} {T : Nat} (hp : ∀ t, h (t + T) = h t) (hT : 0 < T) {n : Nat} (hn : 0 < n) (he : 0 < cntH h 0 T) : n ≤ leastH h T ((n - 1) / cntH h 0 T * T + T) := by
  have h1 := leastH_whole hp hT ((n - 1) / cntH h 0 T + 1)
  rw [Nat.succ_mul] at h1
  rw [h1]
  have h2 := Nat.div_add_mod (n - 1) (cntH h 0 T)
  have h3 := Nat.mod_lt (n - 1) he
  rw [Nat.succ_mul, Nat.mul_comm]
  omega
theorem waits_start {h : Nat → Bool} {T : Nat} (hp : ∀ t, h (t + T) = h t) (hT : 0 < T) {n : Nat} (hn : 0 < n) : leastH h T ((n - 1) / cntH h 0 T * T) < n := by
  rw [leastH_whole hp hT]
  have := Nat.div_mul_le_self (n - 1) (cntH h 0 T)
  omega
end Go.Proofs.YthafahnlfpkkbaaGreatDoor
