/- Plain: what package sway answers; of rooms that count, and of two that rest. No program in sight. -/
import Derived.Test.YtongkiccglaniaaDoorFlowsLaw
import Derived.Test.YtongkiccglaniaaDoorKLawU
namespace Go.Proofs.YtongkiccglaniaaDoor

/-- Which error: 0, none. -/
def swayE (p : Pl) (a c v b ticks : Int) : Int := if planChk p ≠ 0 then planChk p else if pokeOk p.code.length a c v = true ∧ 0 ≤ b ∧ b < p.code.length ∧ 0 ≤ ticks ∧ ticks ≤ 2000 then 0 else 1
noncomputable def swayV (p : Pl) (a c v b ticks : Int) : Int := if swayE p a c v b ticks = 0 then sinceOf p a c v b.toNat ticks.toNat else 0
theorem swayE_zero {p : Pl} {a c v b ticks : Int} (h : swayE p a c v b ticks = 0) : planChk p = 0 ∧ pokeOk p.code.length a c v = true ∧ 0 ≤ b ∧ b < p.code.length ∧ 0 ≤ ticks ∧ ticks ≤ 2000 := by
  unfold swayE at h
  by_cases h1 : planChk p = 0
  · rw [if_neg (fun e => e h1)] at h
    by_cases h2 : pokeOk p.code.length a c v = true ∧ 0 ≤ b ∧ b < p.code.length ∧ 0 ≤ ticks ∧ ticks ≤ 2000
    · exact ⟨h1, h2⟩
    · rw [if_neg h2] at h; cases h
  · rw [if_pos h1] at h; exact absurd h h1
theorem swayE_of {p : Pl} {a c v b ticks : Int} (h1 : planChk p = 0) (h2 : pokeOk p.code.length a c v = true) (h3 : 0 ≤ b ∧ b < p.code.length ∧ 0 ≤ ticks ∧ ticks ≤ 2000) : swayE p a c v b ticks = 0 := by
  unfold swayE
  rw [if_neg (fun e => e h1), if_pos ⟨h2, h3⟩]
theorem swayV_nat {p : Pl} {a c v : Int} {b ticks : Nat} (h : swayE p a c v b ticks = 0) : swayV p a c v b ticks = sinceOf p a c v b ticks := by
  unfold swayV
  rw [if_pos h, Int.toNat_natCast, Int.toNat_natCast]
theorem since_ge (p : Pl) (a c v : Int) (b ticks : Nat) : -1 ≤ sinceOf p a c v b ticks ∧ sinceOf p a c v b ticks ≤ ticks := by
  have := firstOf_ge (unlikeK p (kNew p) (pokeK (kNew p) a c v) b) (ticks + 1)
  unfold sinceOf
  omega
theorem since_more {p : Pl} {a c v : Int} {b t u : Nat} (h : 0 ≤ sinceOf p a c v b t) (hu : t ≤ u) : sinceOf p a c v b u = sinceOf p a c v b t := firstOf_more h (by omega)
theorem new_room {p : Pl} {b : Nat} : (kNew p).rooms.getD b St.zero = St.zero := by
  unfold kNew
  rw [List.getD_eq_getElem?_getD, List.getElem?_map]
  cases p.code[b]? <;> rfl
/-- The room itself is another one at once, if the cell is another number. -/
theorem since_self {p : Pl} {b : Nat} (hb : b < p.code.length) {c : Nat} (hc : c < 6) {v : Int} (hv : v ≠ 0) (ticks : Nat) : sinceOf p b c v b ticks = 0 := by
  refine firstOf_hit (t := 0) ?_ (fun j h => by omega) (by omega)
  unfold unlikeK goK
  rw [new_room]
  have h1 : (pokeK (kNew p) b c v).rooms.getD b St.zero = St.zero.put c v := by
    unfold pokeK
    rw [Int.toNat_natCast, Int.toNat_natCast, new_room, List.getD_eq_getElem?_getD, List.getElem?_set_self (by simp [kNew]; exact hb)]
    rfl
  rw [h1, stEq_ne (fun e => ?_)]; rfl
  have h2 := congrArg (fun s => s.get c) e
  rcases six hc with rfl | rfl | rfl | rfl | rfl | rfl <;> exact hv h2.symm
theorem put_zero {c : Nat} (hc : c < 6) : St.zero.put c 0 = St.zero := by
  rcases six hc with rfl | rfl | rfl | rfl | rfl | rfl <;> rfl
/-- Nothing changes where the number is the same. -/
theorem since_same {p : Pl} {a c : Int} (h0 : 0 ≤ c ∧ c < 6) (b ticks : Nat) : sinceOf p a c 0 b ticks = -1 := by
  have h1 : pokeK (kNew p) a c 0 = kNew p := by
    unfold pokeK
    rw [new_room, put_zero (by omega)]
    show Kst.mk _ _ _ = _
    have : (kNew p).rooms.set a.toNat St.zero = (kNew p).rooms := by
      apply List.ext_getElem?
      intro j
      rw [List.getElem?_set]
      by_cases e : a.toNat = j
      · subst e
        rw [if_pos rfl]
        by_cases hl : a.toNat < (kNew p).rooms.length
        · rw [if_pos hl, List.getElem?_eq_getElem hl]
          have := new_room (p := p) (b := a.toNat)
          rw [List.getD_eq_getElem?_getD, List.getElem?_eq_getElem hl, Option.getD_some] at this
          rw [this]
        · rw [if_neg hl, List.getElem?_eq_none (by omega)]
      · rw [if_neg e]
    rw [this]
  unfold sinceOf
  rw [h1]
  refine firstOf_none fun j _ => unlikeK_false rfl
theorem reach_wireless {a b : Nat} (h : Reach [] a b) : a = b := by
  induction h with
  | refl => rfl
  | step _ e _ => obtain ⟨x, hx, _⟩ := e; simp at hx
theorem since_wireless {p : Pl} (hp : PlOk p) (hw : p.wires = []) {a c v : Int} (ho : pokeOk p.code.length a c v = true) {b ticks : Nat} (hne : a.toNat ≠ b) : sinceOf p a c v b ticks = -1 := by
  by_cases h : 0 ≤ sinceOf p a c v b ticks
  · have := since_flows hp ho h
    rw [hw] at this
    exact absurd (reach_wireless this) hne
  · have := since_ge p a c v b ticks
    omega
/-- Rooms that count. -/
theorem since_count {n : Nat} (h1 : 1 ≤ n) (h5 : n ≤ 5) {a b : Nat} (ha : a < n) (hb : b < n) {c : Nat} (hc : c < 6) {v : Int} (hv : 0 ≤ v ∧ v < 1000) (ticks : Nat) :
    decide (0 ≤ sinceOf (countPl n) a c v b ticks) = (decide (a = b) && !decide (v = 0)) := by
  have hl : (countPl n).code.length = n := by simp [countPl]
  have hp := planChk_ok (countPl_ok n h1 h5)
  by_cases hv0 : v = 0
  · subst hv0
    rw [since_same (by omega)]; simp
  · by_cases e : a = b
    · subst e
      rw [since_self (by omega) hc hv0]; simp [hv0]
    · rw [since_wireless hp rfl (by rw [hl]; unfold pokeOk; exact decide_eq_true (by omega)) (by omega)]
      simp [e]
/-- Two rooms that rest. -/
def rest2Pl : Pl := ⟨[[⟨10, 0, 0⟩], [⟨10, 0, 0⟩]], 1, [], []⟩
theorem rest2_chk : planChk rest2Pl = 0 := by decide
theorem rest2_fact : swayE rest2Pl 0 0 5 0 3 = 0 ∧ swayV rest2Pl 0 0 5 0 3 = 0 ∧ swayE rest2Pl 0 0 5 1 3 = 0 ∧ swayV rest2Pl 0 0 5 1 3 = -1 := by
  have e1 : swayE rest2Pl 0 0 5 0 3 = 0 := swayE_of rest2_chk (by decide) (by decide)
  have e2 : swayE rest2Pl 0 0 5 1 3 = 0 := swayE_of rest2_chk (by decide) (by decide)
  refine ⟨e1, ?_, e2, ?_⟩
  · exact (swayV_nat (b := 0) (ticks := 3) e1).trans (since_self (p := rest2Pl) (b := 0) (by decide) (c := 0) (by decide) (by decide) 3)
  · exact (swayV_nat (b := 1) (ticks := 3) e2).trans (since_wireless (planChk_ok rest2_chk) rfl (by decide) (by decide))
end Go.Proofs.YtongkiccglaniaaDoor
