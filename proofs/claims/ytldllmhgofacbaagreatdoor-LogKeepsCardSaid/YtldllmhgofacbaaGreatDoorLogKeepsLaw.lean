/- Plain: the marks behind records, what a step comes to, and what a crash leaves of them. No program is walked. Conditions: none. -/
import Derived.Test.YtldllmhgofacbaaGreatDoorLogRedo
import Derived.Test.YtldllmhgofacbaaGreatDoorLogStopsLaw
namespace Go.Proofs.YtldllmhgofacbaaGreatDoor
open Go.RowKit

theorem Row.short {w : World} {e sz : Nat} {A : Option Addr} {n cap : Nat} {xs : List Value} (h : Row w e sz A n cap xs) {k : Nat} (hk : k ≤ n) : Row w e sz A k cap (xs.take (k * sz)) := by
  have hm : k * sz ≤ n * sz := Nat.mul_le_mul_right _ hk
  refine ⟨by rw [List.length_take, h.1]; omega, ?_⟩
  rcases h.2 with ⟨rfl, rfl, rfl⟩ | ⟨b, off, cur, rfl, hh, h1, h2, h3, h4⟩
  · exact .inl ⟨rfl, by omega, rfl⟩
  · refine .inr ⟨b, off, cur, rfl, hh, by omega, h2, h3, fun j u hu => h4 j u ?_⟩
    rw [List.getElem?_take] at hu
    split at hu
    · exact hu
    · cases hu
/-- So many bytes lie ahead of each record, and behind the last. -/
def markAt (l : List Lrec) (i : Nat) : Int := ((recsText (l.take i)).length : Int)
def marksOf (l : List Lrec) : List Int := (List.range (l.length + 1)).map (markAt l)
theorem marks_len (l : List Lrec) : (marksOf l).length = l.length + 1 := by unfold marksOf; simp
theorem marks_get {l : List Lrec} {i : Nat} (h : i ≤ l.length) : (marksOf l)[i]? = some (markAt l i) := by
  unfold marksOf
  rw [List.getElem?_map, List.getElem?_range (by omega)]; rfl
theorem marks_nil : marksOf [] = [0] := rfl
theorem marks_snoc (l : List Lrec) (x : Lrec) : marksOf (l ++ [x]) = marksOf l ++ [((recsText (l ++ [x])).length : Int)] := by
  unfold marksOf
  rw [List.length_append, List.length_singleton, List.range_succ (n := l.length + 1), List.map_append, List.map_cons, List.map_nil]
  congr 1
  · refine List.map_congr_left fun i hi => ?_
    have := List.mem_range.1 hi
    unfold markAt
    rw [List.take_append_of_le_length (by omega)]
  · unfold markAt
    rw [List.take_of_length_le (by simp)]
theorem marks_take {l : List Lrec} {k : Nat} (h : k ≤ l.length) : marksOf (l.take k) = (marksOf l).take (k + 1) := by
  apply List.ext_getElem?
  intro i
  by_cases hi : i ≤ k
  · rw [List.getElem?_take, if_pos (by omega), marks_get (by rw [List.length_take]; omega), marks_get (by omega)]
    unfold markAt
    rw [List.take_take, Nat.min_eq_left hi]
  · rw [List.getElem?_take, if_neg (by omega)]
    exact List.getElem?_eq_none (by rw [marks_len, List.length_take]; omega)
theorem rec_pos (x : Lrec) : 2 ≤ (recText x).length := by
  have h0 := List.length_pos_iff.2 (rec_ne x)
  unfold recText; rw [List.length_append, List.length_singleton]; omega
theorem whole_iff : ∀ (l : List Lrec) (n j : Nat), j ≤ l.length → ((recsText (l.take j)).length ≤ n ↔ j ≤ wholeIn l n)
  | [], n, j, h => by
    have : j = 0 := by simpa using h
    subst this
    simp [recsText, wholeIn]
  | x :: l, n, 0, h => by simp [recsText]
  | x :: l, n, j + 1, h => by
    have h2 : j ≤ l.length := by simpa using h
    have ih := whole_iff l (n - (recText x).length) j h2
    have e : recsText ((x :: l).take (j + 1)) = recText x ++ recsText (l.take j) := by unfold recsText; rw [List.take_succ_cons, List.flatMap_cons]
    rw [e, List.length_append]
    unfold wholeIn
    split
    · omega
    · omega
/-- The last mark that is not beyond what is left, of the first so many. -/
def lastIn (l : List Lrec) (n i : Nat) : Nat := if i = 0 then 0 else min (i - 1) (wholeIn l n)
theorem left_next {l : List Lrec} {n i : Nat} (h : i ≤ l.length) : lastIn l n (i + 1) = if markAt l i ≤ (n : Int) then i else lastIn l n i := by
  have hw := whole_iff l n i h
  unfold lastIn markAt
  rw [if_neg (by omega)]
  split
  · omega
  · split
    · have : ¬ (i ≤ wholeIn l n) := fun hh => by have := hw.2 hh; omega
      omega
    · have : ¬ (i ≤ wholeIn l n) := fun hh => by have := hw.2 hh; omega
      omega
theorem left_end (l : List Lrec) (n : Nat) : lastIn l n (l.length + 1) = wholeIn l n := by
  have := wholeIn_le l n
  unfold lastIn
  rw [if_neg (by omega)]; omega

/-! What a step comes to -/
def stepE (p : Pl) (L : Lg) (xs : List Int) : Int × Lg := if xs.length = 1 then L.goE p (xs.getD 0 0) else L.pokeE p (xs.getD 0 0) (xs.getD 1 0) (xs.getD 2 0)
/-- .. and what the reference says of it. -/
def stepR (p : Pl) (L : Lg) (xs : List Int) : Int :=
  if xs.length = 1 then (if xs.getD 0 0 < 0 ∨ 100 < xs.getD 0 0 then 1 else if 2000 < (runRecs p L.done).time + xs.getD 0 0 then 4 else 0)
  else if pokeOk p.code.length (xs.getD 0 0) (xs.getD 1 0) (xs.getD 2 0) = true then 0 else 1
structure Stepped (p : Pl) (L : Lg) (xs : List Int) (q : Int × Lg) : Prop where
  ok : LgOk p q.2
  told : q.1 = 6 ∨ q.1 = stepR p L xs
  good : q.1 = 0 → StepOk p.code.length xs ∧ q.2.done = L.done ++ [recI xs] ∧ L.text.length + 2 ≤ q.2.text.length ∧ q.2.text = recsText q.2.done
  bad : q.1 ≠ 0 → q.2.done = L.done
theorem put_zero {L : Lg} {x : Lrec} (hp : L.part = []) (h : (L.put x).1 = 0) : (L.put x).2.done = L.done ++ [x] ∧ L.text.length + 2 ≤ (L.put x).2.text.length ∧ (L.put x).2.text = recsText (L.put x).2.done := by
  unfold Lg.put at h ⊢
  split
  · rename_i h0
    rw [if_pos h0] at h
    cases h
  · refine ⟨rfl, ?_, by unfold Lg.text; simp⟩
    unfold Lg.text
    have := rec_pos x
    simp only [recs_snoc, hp, List.append_nil, List.length_append]; omega
theorem put_bad {L : Lg} {x : Lrec} (h : (L.put x).1 ≠ 0) : (L.put x).1 = 6 ∧ (L.put x).2.done = L.done := by
  unfold Lg.put at h ⊢
  split
  · exact ⟨rfl, rfl⟩
  · rename_i h0
    rw [if_neg h0] at h
    exact absurd rfl h
theorem put_two {L : Lg} {x : Lrec} : (L.put x).1 = 6 ∨ (L.put x).1 = 0 := by unfold Lg.put; split; exact .inl rfl; exact .inr rfl
theorem stepped {p : Pl} (hR : p.code.length ≤ 5) {L : Lg} (h : LgOk p L) (xs : List Int) : Stepped p L xs (stepE p L xs) := by
  unfold stepE
  by_cases h1 : xs.length = 1
  · rw [if_pos h1]
    refine ⟨Lg.go_ok hR h _, ?_, ?_, ?_⟩
    · unfold stepR
      rw [if_pos h1]
      unfold Lg.goE
      by_cases hs : L.stopped = true
      · rw [if_pos hs]; exact .inl rfl
      · rw [if_neg hs]
        split
        · exact .inr rfl
        · split
          · exact .inr rfl
          · exact put_two
    · unfold Lg.goE StepOk recI
      rw [if_pos h1, if_pos h1]
      by_cases hs : L.stopped = true
      · rw [if_pos hs]; intro e; cases e
      · rw [if_neg hs]
        have hw := h.whole (by simpa using hs)
        by_cases h2 : xs.getD 0 0 < 0 ∨ 100 < xs.getD 0 0
        · rw [if_pos h2]; intro e; cases e
        · rw [if_neg h2]
          by_cases h3 : 2000 < (runRecs p L.done).time + xs.getD 0 0
          · rw [if_pos h3]; intro e; cases e
          · rw [if_neg h3]
            intro e
            exact ⟨by omega, put_zero hw e⟩
    · unfold Lg.goE
      split
      · intro _; rfl
      · split
        · intro _; rfl
        · split
          · intro _; rfl
          · exact fun e => (put_bad e).2
  · rw [if_neg h1]
    refine ⟨Lg.poke_ok hR h _ _ _, ?_, ?_, ?_⟩
    · unfold stepR
      rw [if_neg h1]
      unfold Lg.pokeE
      by_cases hs : L.stopped = true
      · rw [if_pos hs]; exact .inl rfl
      · rw [if_neg hs]
        by_cases h2 : pokeOk p.code.length (xs.getD 0 0) (xs.getD 1 0) (xs.getD 2 0) = true
        · rw [if_pos h2, if_neg (by rw [h2]; simp)]; exact put_two
        · rw [if_neg h2, if_pos (by simpa using h2)]; exact .inr rfl
    · unfold Lg.pokeE StepOk recI
      rw [if_neg h1, if_neg h1]
      by_cases hs : L.stopped = true
      · rw [if_pos hs]; intro e; cases e
      · rw [if_neg hs]
        have hw := h.whole (by simpa using hs)
        by_cases h2 : pokeOk p.code.length (xs.getD 0 0) (xs.getD 1 0) (xs.getD 2 0) = true
        · rw [if_neg (by rw [h2]; simp)]
          intro e
          exact ⟨h2, put_zero hw e⟩
        · rw [if_pos (by simpa using h2)]; intro e; cases e
    · unfold Lg.pokeE
      split
      · intro _; rfl
      · split
        · intro _; rfl
        · exact fun e => (put_bad e).2
/-- What is synced is safe. -/
theorem sync_law {p : Pl} {L : Lg} (h : LgOk p L) : LgOk p L.syncE.2 ∧ L.syncE.2.done = L.done ∧ (L.syncE.1 = 0 → L.syncE.2.safe = L.syncE.2.text.length) := by
  refine ⟨Lg.sync_ok h, ?_, ?_⟩
  · unfold Lg.syncE; split
    · rfl
    · split <;> rfl
  · unfold Lg.syncE
    split
    · intro e; cases e
    · split
      · intro e; cases e
      · intro _; rfl
theorem crash_text (L : Lg) (keep : Int) : (L.crash keep).text = recsText (L.crash keep).done ∧ (L.crash keep).safe = (L.crash keep).text.length := by
  unfold Lg.crash Lg.text
  simp
theorem crash_mark {L : Lg} (keep : Int) : ((L.crash keep).text.length : Int) = markAt L.done (wholeIn L.done (L.keepN keep)) ∧ ((L.crash keep).safe : Int) = markAt L.done (wholeIn L.done (L.keepN keep)) := by
  obtain ⟨h1, h2⟩ := crash_text L keep
  rw [h2, h1]
  exact ⟨rfl, rfl⟩

/-! The first facts -/
theorem rec5 : (recText (.go 5)).length = 2 := by kernel_rfl
theorem recs5 : (recsText [.go 5]).length = 2 := by
  show (recText (.go 5) ++ []).length = 2
  rw [List.append_nil, rec5]
theorem whole5 : wholeIn [.go 5, .go 7] 2 = 1 := by
  have h := rec_pos (.go 7)
  unfold wholeIn
  rw [if_pos (by rw [rec5]; exact Nat.le_refl _), rec5]
  unfold wholeIn
  rw [if_neg (by omega)]
def restL (ds : List Lrec) (safe : Nat) : Lg := ⟨ds, [], safe, -1, false⟩
theorem rest_go5 : Lg.new.goE restPl 5 = (0, restL [.go 5] 0) := by
  have ht : (runRecs restPl Lg.new.done).time = 0 := rfl
  unfold Lg.goE
  rw [if_neg (by decide), if_neg (by decide), if_neg (by rw [ht]; decide)]
  rfl
theorem rest_ok5 : LgOk restPl (restL [.go 5] 0) := by
  have h := Lg.go_ok (p := restPl) (by decide) (Lg.new_ok restPl) 5
  rw [rest_go5] at h; exact h
theorem rest_sync5 : (restL [.go 5] 0).syncE = (0, restL [.go 5] 2) := by
  have h : (restL [.go 5] 0).text.length = 2 := by show (recsText [.go 5] ++ []).length = 2; rw [List.append_nil, recs5]
  unfold Lg.syncE
  rw [if_neg (by decide), if_neg (by decide), h]
  rfl
theorem rest_okS : LgOk restPl (restL [.go 5] 2) := by
  have h := Lg.sync_ok rest_ok5
  rw [rest_sync5] at h; exact h
theorem rest_time5 : (runRecs restPl [.go 5]).time = 5 := by
  rw [runRecs_time (planChk_ok rest_chk) (fun x hx => by simp at hx; subst hx; show 5 ≤ 100; omega)]; rfl
theorem rest_go7 : (restL [.go 5] 2).goE restPl 7 = (0, restL [.go 5, .go 7] 2) := by
  unfold Lg.goE
  rw [if_neg (by decide), if_neg (by decide), if_neg (by rw [show (restL [.go 5] 2).done = [.go 5] from rfl, rest_time5]; decide)]
  rfl
theorem rest_ok7 : LgOk restPl (restL [.go 5, .go 7] 2) := by
  have h := Lg.go_ok (p := restPl) (by decide) rest_okS 7
  rw [rest_go7] at h; exact h
theorem rest_crash : (restL [.go 5, .go 7] 2).crash 0 = restL [.go 5] 2 := by
  have h1 : (restL [.go 5, .go 7] 2).keepN 0 = 2 := rfl
  have h2 : (restL [.go 5, .go 7] 2).done.take (wholeIn (restL [.go 5, .go 7] 2).done 2) = [.go 5] := by
    show [Lrec.go 5, .go 7].take (wholeIn [.go 5, .go 7] 2) = _
    rw [whole5]; rfl
  unfold Lg.crash
  rw [h1, h2, recs5]
  rfl
end Go.Proofs.YtldllmhgofacbaaGreatDoor
