/- Shares and gaps of a frame that is right: plain laws. -/
import Derived.Test.YtfokcjooibmigaaDoorGap
import Derived.Test.YtfokcjooibmigaaDoorSupply
namespace Go.Proofs.YtfokcjooibmigaaDoor
open Go.RowKit
set_option maxRecDepth 100000

/-- Each span is right, and none meets one ahead of it. -/
def FrOk (T : Int) (l : List Span) : Prop := ∀ k s, l[k]? = some s → spanBad T s = false ∧ (l.take k).any (spanMeets s) = false
theorem spansChk_all {T : Int} {l : List Span} : ∀ {f k : Nat}, l.length < f + k → (spansChk T l f k).2 = 0 → ∀ j s, k ≤ j → l[j]? = some s → spanBad T s = false ∧ (l.take j).any (spanMeets s) = false
  | 0, k, hf, _, j, s, hj, hs => by have := (List.getElem?_eq_some_iff.1 hs).1; omega
  | f + 1, k, hf, h, j, s, hj, hs => by
    have hk : k < l.length := by have := (List.getElem?_eq_some_iff.1 hs).1; omega
    have hg := List.getElem?_eq_getElem hk
    cases hb : spanBad T l[k] with
    | true => rw [spansChk_bad hg hb] at h; exact absurd h (by simp)
    | false =>
      cases hm : (l.take k).any (spanMeets l[k]) with
      | true => rw [spansChk_meets hg hb hm] at h; exact absurd h (by simp)
      | false =>
        rw [spansChk_next hg hb hm] at h
        by_cases e : j = k
        · subst e; rw [hg] at hs; cases hs; exact ⟨hb, hm⟩
        · exact spansChk_all (by omega) h j s (by omega) hs
theorem frOk_of {T : Int} {l : List Span} (h : (frameChk T l).2 = 0) : FrOk T l := by
  unfold frameChk at h
  split at h
  · simp at h
  · split at h
    · simp at h
    · exact fun k s hs => spansChk_all (by omega) h k s (Nat.zero_le _) hs
theorem spanOk {T : Int} {s : Span} (h : spanBad T s = false) : 0 ≤ s.fr ∧ s.fr < s.to ∧ s.to ≤ T ∧ 0 ≤ s.room ∧ s.room < 5 := by
  unfold spanBad at h
  rw [Bool.or_eq_false_iff] at h
  have h1 := of_decide_eq_false h.1
  have h2 : roomB s.room = true := by simpa using h.2
  have := roomB_true.1 h2
  omega

def covers (s : Span) (t : Nat) : Bool := decide (s.fr ≤ t ∧ (t : Int) < s.to)
theorem turnAt_snoc (l : List Span) (s : Span) (t : Nat) (hno : covers s t = true → ∀ x ∈ l, covers x t = false) :
    turnAt (l ++ [s]) t = if covers s t then s.room else turnAt l t := by
  unfold turnAt
  rw [List.find?_append]
  by_cases hc : covers s t = true
  · have hn := hno hc
    have : l.find? (fun s => decide (s.fr ≤ (t : Int) ∧ (t : Int) < s.to)) = none := by
      rw [List.find?_eq_none]
      intro x hx
      have := hn x hx
      unfold covers at this
      simpa using this
    rw [this, if_pos hc]
    unfold covers at hc
    simp only [Option.none_or, List.find?_cons, hc]
  · rw [if_neg hc]
    unfold covers at hc
    have hc' : decide (s.fr ≤ (t : Int) ∧ (t : Int) < s.to) = false := by simpa using hc
    cases h : l.find? (fun s => decide (s.fr ≤ (t : Int) ∧ (t : Int) < s.to)) with
    | some x => rfl
    | none =>
      have : [s].find? (fun s => decide (s.fr ≤ (t : Int) ∧ (t : Int) < s.to)) = none := by
        rw [List.find?_eq_none]
        intro x hx
        simp only [List.mem_singleton] at hx
        subst hx
        rw [hc']; simp
      rw [Option.none_or, this]
theorem cntH_sum {h g p : Nat → Bool} : ∀ {m : Nat}, (∀ t, t < m → (h t).toNat = (g t).toNat + (p t).toNat) → cntH h 0 m = cntH g 0 m + cntH p 0 m
  | 0, _ => rfl
  | m + 1, H => by
    rw [cntH_succ, cntH_succ, cntH_succ, cntH_sum (fun t ht => H t (by omega)), Nat.zero_add, H m (by omega)]; omega
theorem cntH_congr {h g : Nat → Bool} {f : Nat} : ∀ {m : Nat}, (∀ t, t < m → h (f + t) = g (f + t)) → cntH h f m = cntH g f m
  | 0, _ => rfl
  | m + 1, H => by rw [cntH_succ, cntH_succ, cntH_congr (fun t ht => H t (by omega)), H m (by omega)]
theorem cntH_cover (s : Span) (h0 : 0 ≤ s.fr) (h1 : s.fr < s.to) : ∀ m : Nat, (cntH (covers s) 0 m : Int) = max 0 (min (m : Int) s.to - s.fr)
  | 0 => by rw [cntH_zero]; simp; omega
  | m + 1 => by
    have ih := cntH_cover s h0 h1 m
    rw [cntH_succ, Nat.zero_add, Int.natCast_add, ih]
    by_cases hc : s.fr ≤ (m : Int) ∧ (m : Int) < s.to
    · have : covers s m = true := decide_eq_true hc
      rw [this]
      simp only [Bool.toNat_true]
      omega
    · have : covers s m = false := decide_eq_false hc
      rw [this]
      simp only [Bool.toNat_false]
      omega

/-- Shares of the first k spans. -/
def shTo (l : List Span) : Nat → Nat → Int
  | 0, _ => 0
  | k + 1, r => match l[k]? with
    | some s => if s.room = r then shTo l k r + (s.to - s.fr) else shTo l k r
    | none => shTo l k r
theorem shTo_succ {l : List Span} {k : Nat} {s : Span} (h : l[k]? = some s) (r : Nat) : shTo l (k + 1) r = if s.room = r then shTo l k r + (s.to - s.fr) else shTo l k r := by simp [shTo, h]
def roomH (l : List Span) (r : Nat) : Nat → Bool := fun t => decide (turnAt l t = r)
theorem shTo_cnt {T : Nat} {l : List Span} (hok : FrOk T l) (r : Nat) : ∀ k, k ≤ l.length → shTo l k r = (cntH (roomH (l.take k) r) 0 T : Nat)
  | 0, _ => by
    have : cntH (roomH (l.take 0) r) 0 T = cntH (fun _ => false) 0 T := cntH_congr fun t _ => by
      unfold roomH turnAt; simp
    rw [this]
    have h0 : ∀ m, cntH (fun _ => false) 0 m = 0 := by
      intro m
      induction m with
      | zero => rfl
      | succ m ih => rw [cntH_succ, ih]; rfl
    rw [h0]; rfl
  | k + 1, hk => by
    have hg := List.getElem?_eq_getElem (show k < l.length by omega)
    obtain ⟨hb, hm⟩ := hok k _ hg
    generalize hs : l[k] = s at hg hb hm
    obtain ⟨b1, b2, b3, b4, b5⟩ := spanOk hb
    have ih := shTo_cnt hok r k (by omega)
    have htk : l.take (k + 1) = l.take k ++ [s] := by rw [List.take_succ_eq_append_getElem (by omega), hs]
    have hno : ∀ t : Nat, covers s t = true → ∀ x ∈ l.take k, covers x t = false := by
      intro t hc x hx
      cases hx2 : covers x t with
      | false => rfl
      | true =>
        have h1 := of_decide_eq_true hc
        have h2 := of_decide_eq_true hx2
        have h3 := List.any_eq_false.1 hm x hx
        simp only [spanMeets, decide_eq_true_eq] at h3
        omega
    have hturn := fun t => turnAt_snoc (l.take k) s t (hno t)
    have hnone : ∀ t : Nat, covers s t = true → turnAt (l.take k) t = -1 := by
      intro t hc
      refine turnAt_none fun j x _ hx => ?_
      have := hno t hc x (List.mem_of_getElem? hx)
      exact of_decide_eq_false this
    rw [shTo_succ hg]
    by_cases hr : s.room = r
    · rw [if_pos hr, ih]
      have hsum : cntH (roomH (l.take (k + 1)) r) 0 T = cntH (roomH (l.take k) r) 0 T + cntH (covers s) 0 T := by
        refine cntH_sum fun t _ => ?_
        unfold roomH
        rw [htk, hturn]
        by_cases hc : covers s t = true
        · rw [if_pos hc, hc, hnone t hc, hr]
          have : decide ((-1 : Int) = (r : Int)) = false := decide_eq_false (by omega)
          rw [this, decide_eq_true rfl]; rfl
        · rw [if_neg hc]
          have : covers s t = false := by simpa using hc
          rw [this]; rfl
      have hcv := cntH_cover s b1 b2 T
      rw [hsum]
      omega
    · rw [if_neg hr, ih]
      congr 1
      refine cntH_congr fun t _ => ?_
      unfold roomH
      rw [htk, hturn]
      by_cases hc : covers s (0 + t) = true
      · rw [if_pos hc, hnone _ hc, decide_eq_false hr, decide_eq_false (by omega)]
      · rw [if_neg hc]
theorem shares_cnt {T : Nat} {l : List Span} (h : (frameChk T l).2 = 0) (r : Nat) : shTo l l.length r = (cntH (hitB l T r) 0 T : Nat) := by
  have := shTo_cnt (frOk_of h) r l.length (Nat.le_refl _)
  rw [List.take_length] at this
  rw [this]
  congr 1
  refine cntH_congr fun t ht => ?_
  unfold roomH hitB
  rw [Nat.zero_add, Int.emod_eq_of_lt (by omega) (by omega)]
theorem shTo_bd {T : Nat} {l : List Span} (h : FrOk T l) (r k : Nat) (hk : k ≤ l.length) : 0 ≤ shTo l k r ∧ shTo l k r ≤ T := by
  have h1 := shTo_cnt h r k hk
  have h2 := cntH_le (roomH (l.take k) r) 0 T
  omega
end Go.Proofs.YtfokcjooibmigaaDoor
