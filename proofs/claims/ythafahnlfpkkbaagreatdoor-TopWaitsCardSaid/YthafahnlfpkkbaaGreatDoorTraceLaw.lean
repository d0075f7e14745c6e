/- Plain: as many events of a room as it has turns; and the events of a run are right. -/
import Derived.Test.YthafahnlfpkkbaaGreatDoorTraceU
import Derived.Test.YthafahnlfpkkbaaGreatDoorSupply
namespace Go.Proofs.YthafahnlfpkkbaaGreatDoor

theorem evAt_room {p : Pl} (hp : PlOk p) (t : Nat) : (evAt p t).tick = t ∧ (evAt p t).room = turnAt p.spans ((t : Int) % p.ticks) := by
  have htm := runK_time p hp t
  unfold evAt tick
  rcases tick_meets hp (runK_ok hp t) (spans_ok hp) with h0 | ⟨r, ops, s, o, h0, hc, hs, ho⟩
  · rw [tick_none h0]
    rw [htm] at h0
    exact ⟨htm, h0.symm⟩
  · rw [tick_room h0 hc hs ho]
    rw [htm] at h0
    exact ⟨htm, h0.symm⟩
theorem evs_turns {p : Pl} (hp : PlOk p) {T : Nat} (hT : p.ticks = T) (room : Int) (n : Nat) : ((evsTo p n).filter fun x => decide (x.room = room)).length = cntH (hitB p.spans T room) 0 n := by
  unfold evsTo cntH
  rw [List.filter_map, List.length_map]
  congr 1
  apply List.filter_congr
  intro t _
  simp only [Function.comp, hitB, Nat.zero_add]
  rw [(evAt_room hp t).2, hT]
theorem kDo_what (n : Int) (r : Nat) (o : Op) (s : St) (k : Kst) : 0 ≤ (kDo n r o s k).1 ∧ (kDo n r o s k).1 ≤ 5 := by
  unfold kDo
  repeat' split
  all_goals (simp only []; try split)
  all_goals omega
theorem evAt_ok {p : Pl} (hp : PlOk p) {t : Nat} (ht : t ≤ 2000) : evChk (evAt p t) = 0 := by
  have h1 := (evAt_room hp t).1
  have h5 := hp.most5
  have key : -1 ≤ (evAt p t).room ∧ (evAt p t).room ≤ 4 ∧ 0 ≤ (evAt p t).pc ∧ (evAt p t).pc ≤ 19 ∧ 0 ≤ (evAt p t).what ∧ (evAt p t).what ≤ 5 ∧ ((evAt p t).room < 0 → (evAt p t).pc = 0 ∧ (evAt p t).what = 0) := by
    unfold evAt tick
    rcases tick_meets hp (runK_ok hp t) (spans_ok hp) with h0 | ⟨r, ops, s, o, h0, hc, hs, ho⟩
    · rw [tick_none h0]
      simp only []
      exact ⟨by omega, by omega, by omega, by omega, by omega, by omega, fun _ => by first | exact ⟨rfl, rfl⟩ | exact ⟨trivial, trivial⟩ | trivial⟩
    · rw [tick_room h0 hc hs ho]
      have hr := (List.getElem?_eq_some_iff.1 hc).1
      have hcode := codeChk_ok (hp.codes ops (List.mem_of_getElem? hc))
      have hst := (stOk_iff.1 ((runK_ok hp t).states r ops s hc hs)).1
      have hw := kDo_what ops.length r o s (runK p t)
      exact ⟨by simp only []; omega, by simp only []; omega, hst.1, by simp only []; omega, hw.1, hw.2, fun h => by simp only [] at h; omega⟩
  obtain ⟨k1, k2, k3, k4, k5, k6, k7⟩ := key
  unfold evChk
  have hr : evRight (evAt p t) = true := by
    unfold evRight wIn
    rw [decide_eq_true (show 0 ≤ (evAt p t).tick by omega), decide_eq_true (show (evAt p t).tick ≤ 1000000 by omega), decide_eq_true k1, decide_eq_true k2, decide_eq_true k3, decide_eq_true k4, decide_eq_true k5, decide_eq_true k6]
    rfl
  rw [hr, if_neg (by decide), if_neg (fun h => by have := k7 h.1; omega)]
theorem evs_ok {p : Pl} (hp : PlOk p) {n : Nat} (hn : n ≤ 2000) : evsChk (evsTo p n) = 0 := by
  unfold evsChk
  rw [evsTo_len, if_neg (by omega)]
  refine evsFirst_none fun j y hy => ?_
  unfold evsTo at hy
  rw [List.getElem?_map] at hy
  have hj : j < n := by
    have := (List.getElem?_eq_some_iff.1 (show ((List.range n).map (evAt p))[j]? = some y by rw [List.getElem?_map]; exact hy)).1
    simpa using this
  rw [List.getElem?_range hj] at hy
  cases hy
  exact evAt_ok hp (by omega)
end Go.Proofs.YthafahnlfpkkbaaGreatDoor
