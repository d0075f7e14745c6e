/- Plain: a log that is to stop stops at its step, and goes on behind a crash. No program is walked. Conditions: none. -/
import Derived.Test.YtldllmhgofacbaaGreatDoorLogLawU
namespace Go.Proofs.YtldllmhgofacbaaGreatDoor

/-- One room that rests. -/
def restPl : Pl := ⟨[[⟨10, 0, 0⟩]], 1, [], []⟩
theorem rest_chk : planChk restPl = 0 := by decide
/-- So many steps were done of those that were told. -/
structure SA (a i : Nat) (L : Lg) : Prop where
  ok : LgOk restPl L
  few : L.done.length ≤ 16
  time : recsTime L.done ≤ L.done.length
  many : L.done.length ≤ i
  on : i ≤ a → L.stopped = false ∧ L.left = (a : Int) - i
  off : a < i → L.stopped = true
theorem sa_start {a : Nat} (ha : a ≤ 15) : SA a 0 (Lg.new.fail a) := by
  refine ⟨Lg.fail_ok (Lg.new_ok _) _ (by omega), by simp [Lg.fail, Lg.new], by simp [Lg.fail, Lg.new, recsTime], by simp [Lg.fail, Lg.new], fun _ => ⟨rfl, ?_⟩, fun h => by omega⟩
  show (if (a : Int) < 0 then -1 else (a : Int)) = _
  rw [if_neg (by omega)]; omega
section
variable {a i : Nat} {L : Lg}
theorem SA.runtime (h : SA a i L) : (runRecs restPl L.done).time ≤ 16 := by
  rw [runRecs_time (planChk_ok rest_chk) h.ok.recs]
  have := h.time
  have := h.few
  omega
theorem SA.bad (h : SA a i L) : L.goE restPl 101 = (if a < i then 6 else 1, L) := by
  unfold Lg.goE
  by_cases hi : a < i
  · rw [if_pos (h.off hi), if_pos hi]
  · have := (h.on (by omega)).1
    rw [if_neg (by rw [this]; simp), if_pos (.inr (by omega)), if_neg hi]
theorem SA.go (h : SA a i L) (hi : i ≤ 15) : ∃ L', SA a (i + 1) L' ∧ L.goE restPl 1 = (if i < a then 0 else 6, L') := by
  have ht := h.runtime
  have hgo := Lg.go_ok (p := restPl) (by decide) h.ok 1
  by_cases h1 : a < i
  · refine ⟨L, ⟨h.ok, h.few, h.time, by have := h.many; omega, fun e => by omega, fun _ => h.off h1⟩, ?_⟩
    unfold Lg.goE
    rw [if_pos (h.off h1), if_neg (by omega)]
  · obtain ⟨e1, e2⟩ := h.on (by omega)
    have e : L.goE restPl 1 = L.put (Lrec.go 1) := by
      unfold Lg.goE
      rw [if_neg (by rw [e1]; simp), if_neg (by omega), if_neg (by omega)]; rfl
    rw [e] at hgo ⊢
    by_cases h2 : i = a
    · have e3 : L.put (Lrec.go 1) = (6, ⟨L.done, (recText (Lrec.go 1)).take ((recText (Lrec.go 1)).length / 2), L.safe, -1, true⟩) := by unfold Lg.put; rw [if_pos (by omega)]
      rw [e3] at hgo ⊢
      refine ⟨_, ⟨hgo, h.few, h.time, (by have := h.many; show L.done.length ≤ _; omega), fun e => (by omega), fun _ => rfl⟩, ?_⟩
      rw [if_neg (by omega)]
    · have e3 : L.put (Lrec.go 1) = (0, ⟨L.done ++ [Lrec.go 1], [], L.safe, L.left', false⟩) := by unfold Lg.put; rw [if_neg (by omega)]
      rw [e3] at hgo ⊢
      have hm := h.many
      refine ⟨_, ⟨hgo, by simp; omega, ?_, by simp; omega, fun e => ⟨rfl, ?_⟩, fun e => by omega⟩, ?_⟩
      · show recsTime (L.done ++ [Lrec.go 1]) ≤ (L.done ++ [Lrec.go 1]).length
        rw [recsTime_snoc, List.length_append, List.length_singleton]
        have := h.time
        have e4 : (Lrec.go 1).ticks = 1 := rfl
        omega
      · show L.left' = _
        unfold Lg.left'
        rw [if_neg (by omega), e2]; omega
      · rw [if_pos (by omega)]
theorem SA.sync (h : SA a i L) (hi : i ≤ a) : ∃ L', SA a (i + 1) L' ∧ L.syncE = (if i = a then 6 else 0, L') := by
  obtain ⟨e1, e2⟩ := h.on hi
  have hs := Lg.sync_ok h.ok
  have hm := h.many
  by_cases h2 : i = a
  · have e : L.syncE = (6, ⟨L.done, L.part, L.safe, -1, true⟩) := by unfold Lg.syncE; rw [if_neg (by rw [e1]; simp), if_pos (by omega)]
    rw [e] at hs ⊢
    exact ⟨_, ⟨hs, h.few, h.time, by show L.done.length ≤ _; omega, fun e => by omega, fun _ => rfl⟩, by rw [if_pos h2]⟩
  · have e : L.syncE = (0, ⟨L.done, L.part, L.text.length, L.left', false⟩) := by unfold Lg.syncE; rw [if_neg (by rw [e1]; simp), if_neg (by omega)]
    rw [e] at hs ⊢
    refine ⟨_, ⟨hs, h.few, h.time, by show L.done.length ≤ _; omega, fun e => ⟨rfl, ?_⟩, fun e => by omega⟩, by rw [if_neg h2]⟩
    show L.left' = _
    unfold Lg.left'
    rw [if_neg (by omega), e2]; omega
theorem SA.ended (h : SA a i L) (hi : a < i) : L.syncE = (6, L) ∧ L.pokeE restPl 0 0 1 = (6, L) := by
  unfold Lg.syncE Lg.pokeE
  rw [if_pos (h.off hi), if_pos (h.off hi)]
  exact ⟨rfl, rfl⟩
/-- Behind a crash all goes on. -/
theorem SA.back (h : SA a i L) (keep : Int) : ∃ (t : Nat) (L2 L3 : Lg), L.crash keep = L2 ∧ LgOk restPl L2 ∧ L2.done.length ≤ 16 ∧ (runRecs restPl L2.done).time = t ∧ t ≤ 16 ∧
    L2.goE restPl 2 = (0, L3) ∧ LgOk restPl L3 ∧ L3.done.length ≤ 17 ∧ L3.syncE.1 = 0 ∧ L3.syncE.2.safe = L3.syncE.2.text.length ∧ (runRecs restPl L3.syncE.2.done).time = (t : Int) + 2 := by
  have hc := Lg.crash_ok h.ok keep
  have hfew : (L.crash keep).done.length ≤ 16 := by
    unfold Lg.crash
    exact Nat.le_trans (List.length_take_le' _ _) h.few
  have htm := runRecs_time (planChk_ok rest_chk) hc.recs
  have ht : recsTime (L.crash keep).done ≤ 16 := by
    have h1 : recsTime (L.crash keep).done ≤ recsTime L.done := recsTime_take _ _
    have := h.time
    have := h.few
    omega
  have hst : (L.crash keep).stopped = false := rfl
  have hlf : (L.crash keep).left = -1 := rfl
  have hprt : (L.crash keep).part = [] := rfl
  generalize L.crash keep = L2 at *
  have e : L2.goE restPl 2 = (0, ⟨L2.done ++ [Lrec.go 2], [], L2.safe, L2.left', false⟩) := by
    unfold Lg.goE
    rw [if_neg (by rw [hst]; simp), if_neg (by omega), if_neg (by omega)]
    unfold Lg.put
    rw [if_neg (by omega)]; rfl
  have hg := Lg.go_ok (p := restPl) (by decide) hc 2
  rw [e] at hg
  have e2 : (⟨L2.done ++ [Lrec.go 2], [], L2.safe, L2.left', false⟩ : Lg).syncE = (0, ⟨L2.done ++ [Lrec.go 2], [], (⟨L2.done ++ [Lrec.go 2], [], L2.safe, L2.left', false⟩ : Lg).text.length, (⟨L2.done ++ [Lrec.go 2], [], L2.safe, L2.left', false⟩ : Lg).left', false⟩) := by
    unfold Lg.syncE
    rw [if_neg (by simp), if_neg]
    show ¬ L2.left' = 0
    unfold Lg.left'
    rw [if_pos (by omega)]; omega
  refine ⟨recsTime L2.done, L2, _, rfl, hc, hfew, htm, ht, e, hg, by simp; omega, by rw [e2], by rw [e2]; rfl, ?_⟩
  rw [e2]
  show (runRecs restPl (L2.done ++ [Lrec.go 2])).time = _
  rw [runRecs_time (planChk_ok rest_chk) hg.recs, recsTime_snoc]
  have e4 : (Lrec.go 2).ticks = 2 := rfl
  omega
end
end Go.Proofs.YtldllmhgofacbaaGreatDoor
