/- Plain: numbers as text: what is read as a number of at most so many digits. No program is walked. Conditions: none. -/
import Derived.Lib.ItoaNum
import Derived.Lib.AtoiAll
namespace Go.Proofs.YteneedblgaialaaDoor
open Go.Lib

theorem parse_app : ∀ (l r : List UInt8) (acc v : Nat), parseUint10 acc l = .ok v → parseUint10 acc (l ++ r) = parseUint10 v r
  | [], r, acc, v, h => by
    simp only [parseUint10] at h
    injection h with h
    rw [List.nil_append, h]
  | c :: l, r, acc, v, h => by
    simp only [parseUint10, List.cons_append] at h ⊢
    split at h
    · rename_i h1
      rw [if_pos h1]
      split at h
      · cases h
      · rename_i h2
        rw [if_neg h2]
        split at h
        · cases h
        · rename_i h3
          rw [if_neg h3]
          exact parse_app l r _ v h
    · cases h
theorem parse_dec : ∀ u : Nat, u < 18446744073709551616 → parseUint10 0 (decDigits u) = .ok u := by
  intro u
  induction u using Nat.strongRecOn with
  | _ u ih =>
    intro hu
    rw [decDigits]
    split
    · rename_i h
      have h1 : (UInt8.ofNat (48 + u)).toNat = 48 + u := by simp; omega
      simp only [parseUint10, h1]
      rw [if_pos (by omega), if_neg (by omega), if_neg (by omega)]
      congr 1; omega
    · rename_i h
      rw [parse_app _ _ 0 (u / 10) (ih (u / 10) (by omega) (by omega))]
      have h1 : (UInt8.ofNat (48 + u % 10)).toNat = 48 + u % 10 := by simp; omega
      simp only [parseUint10, h1]
      rw [if_pos (by omega), if_neg (by omega), if_neg (by omega)]
      congr 1; omega
theorem dec_ne (u : Nat) : decDigits u ≠ [] := fun h => by
  have := decDigits_length u
  have := nDigits_pos u
  rw [h] at *; simp at *; omega
theorem dec_digit : ∀ (u : Nat) (x : UInt8), x ∈ decDigits u → 48 ≤ x.toNat ∧ x.toNat ≤ 57 := by
  intro u
  induction u using Nat.strongRecOn with
  | _ u ih =>
    intro x hx
    rw [decDigits] at hx
    split at hx
    · simp at hx; subst hx; simp; omega
    · rename_i h
      rw [List.mem_append] at hx
      rcases hx with hx | hx
      · exact ih (u / 10) (by omega) x hx
      · simp at hx; subst hx; simp; omega
theorem atoi_dec (u : Nat) (h : u < 9223372036854775808) : atoiAll (decDigits u) = .ok (u : Int) := by
  have hp := parse_dec u (by omega)
  have hne := dec_ne u
  have hd := dec_digit u
  generalize decDigits u = l at hp hne hd
  match l, hne with
  | c :: r, _ =>
    have hc := hd c (by simp)
    have e1 : ¬ c.toNat = 43 := by omega
    have e2 : ¬ c.toNat = 45 := by omega
    have e3 : ¬ 9223372036854775808 ≤ u := by omega
    unfold atoiAll parseMag
    simp only [e1, e2, e3, or_self, if_false, hp, reduceCtorEq, not_false_eq_true, true_and, false_and]
/-- What is a number of at most so many digits, without a needless zero. -/
def numOf (most : Int) (s : List UInt8) : Option Nat :=
  match atoiAll s with
  | .ok v => if 0 ≤ v ∧ (s.length : Int) ≤ most ∧ itoa v = s then some v.toNat else none
  | _ => none
theorem itoa_nat (n : Nat) : itoa (n : Int) = decDigits n := by
  unfold itoa
  rw [if_neg (by omega), Int.toNat_natCast]
theorem num_lt {n k : Nat} (h : (decDigits n).length ≤ k) : n < 10 ^ k := by
  rw [decDigits_length] at h
  exact Nat.lt_of_lt_of_le (lt_pow_nDigits n) (Nat.pow_le_pow_right (by decide) h)
theorem numOf_some {most : Int} {s : List UInt8} {n : Nat} (hm : most ≤ 18) : numOf most s = some n ↔ itoa (n : Int) = s ∧ (s.length : Int) ≤ most := by
  unfold numOf
  constructor
  · intro h
    split at h
    · rename_i v hv
      split at h
      · rename_i h1
        injection h with h
        have e : (n : Int) = v := by omega
        rw [e]; exact ⟨h1.2.2, h1.2.1⟩
      · cases h
    · cases h
  · rintro ⟨h1, h2⟩
    have h3 : n < 10 ^ 18 := num_lt (by rw [← itoa_nat, h1]; omega)
    have h4 : atoiAll s = .ok (n : Int) := by rw [← h1, itoa_nat]; exact atoi_dec n (by omega)
    rw [h4]
    simp only []
    rw [if_pos ⟨by omega, h2, h1⟩, Int.toNat_natCast]
theorem numOf_lt {most : Int} {s : List UInt8} {n : Nat} (hm : most ≤ 18) (h : numOf most s = some n) : n < 10 ^ most.toNat := by
  obtain ⟨h1, h2⟩ := (numOf_some hm).1 h
  exact num_lt (by rw [← itoa_nat, h1]; omega)
theorem itoa_inj {a b : Nat} (ha : a < 9223372036854775808) (hb : b < 9223372036854775808) (h : itoa (a : Int) = itoa (b : Int)) : a = b := by
  rw [itoa_nat, itoa_nat] at h
  have h1 := atoi_dec a ha
  rw [h, atoi_dec b hb] at h1
  injection h1 with h1
  omega
/-- Words that are all numbers. -/
def numsOf (most : Int) : List (List UInt8) → Option (List Nat)
  | [] => some []
  | s :: l => match numOf most s with
    | none => none
    | some n => (numsOf most l).map (n :: ·)
theorem numsOf_some {most : Int} (hm : most ≤ 18) : ∀ {l : List (List UInt8)} {ns : List Nat}, numsOf most l = some ns ↔ l = ns.map (fun n : Nat => itoa (n : Int)) ∧ ∀ s ∈ l, (s.length : Int) ≤ most
  | [], ns => by
    unfold numsOf
    constructor
    · intro h; injection h with h; subst h; simp
    · rintro ⟨h, _⟩
      cases ns with
      | nil => rfl
      | cons n ns => simp at h
  | s :: l, ns => by
    unfold numsOf
    constructor
    · intro h
      split at h
      · cases h
      · rename_i n hn
        obtain ⟨ms, h1, rfl⟩ := Option.map_eq_some_iff.1 h
        obtain ⟨e1, e2⟩ := (numOf_some hm).1 hn
        obtain ⟨e3, e4⟩ := (numsOf_some hm).1 h1
        refine ⟨by rw [List.map_cons, e1, ← e3], fun t ht => ?_⟩
        rcases List.mem_cons.1 ht with rfl | ht
        · exact e2
        · exact e4 t ht
    · rintro ⟨h1, h2⟩
      cases ns with
      | nil => simp at h1
      | cons n ns =>
        rw [List.map_cons] at h1
        injection h1 with h3 h4
        rw [(numOf_some hm).2 ⟨h3.symm, h2 s (by simp)⟩]
        simp only []
        rw [(numsOf_some hm).2 ⟨h4, fun t ht => h2 t (by simp [ht])⟩]
        rfl
theorem numsOf_snoc {most : Int} : ∀ {l : List (List UInt8)} {s : List UInt8} {ns : List Nat}, numsOf most l = some ns → numsOf most (l ++ [s]) = (numOf most s).map (fun n => ns ++ [n])
  | [], s, ns, h => by
    unfold numsOf at h
    injection h with h
    subst h
    simp only [List.nil_append, numsOf]
    cases numOf most s <;> rfl
  | t :: l, s, ns, h => by
    unfold numsOf at h
    rw [List.cons_append]
    unfold numsOf
    split at h
    · cases h
    · rename_i n hn
      obtain ⟨ms, h1, rfl⟩ := Option.map_eq_some_iff.1 h
      rw [numsOf_snoc h1]
      cases numOf most s <;> rfl
theorem numsOf_bad {most : Int} : ∀ {l : List (List UInt8)} {s : List UInt8} {r : List (List UInt8)}, numOf most s = none → numsOf most (l ++ s :: r) = none
  | [], s, r, h => by
    rw [List.nil_append]; unfold numsOf; rw [h]
  | t :: l, s, r, h => by
    rw [List.cons_append]
    unfold numsOf
    cases numOf most t with
    | none => rfl
    | some n => simp only []; rw [numsOf_bad h]; rfl
end Go.Proofs.YteneedblgaialaaDoor
