/- Plain: the events of a kernel whose rooms are helped are right, and as many are a room's as it has turns. No program is walked. Conditions: none. -/
import Derived.Test.YthafahnlfpkkbaaGreatDoorTraceLaw
import Derived.Test.YthafahnlfpkkbaaGreatDoorCareLaw
import Derived.Test.YthafahnlfpkkbaaGreatDoorEvU
namespace Go.Proofs.YthafahnlfpkkbaaGreatDoor

theorem ev_turn {p : Pl} (hp : PlOk p) {k : Kst} {B : Int} (hk : KOk p k B) : (tick p k).1.tick = k.time ∧ (tick p k).1.room = turnAt p.spans (k.time % p.ticks) := by
  unfold tick
  rcases tick_meets hp hk (spans_ok hp) with h0 | ⟨r, ops, s, o, h0, hc, hs, ho⟩
  · rw [tick_none h0]; exact ⟨rfl, h0.symm⟩
  · rw [tick_room h0 hc hs ho]; exact ⟨rfl, h0.symm⟩
theorem ev_right {p : Pl} (hp : PlOk p) {k : Kst} {B : Int} (hk : KOk p k B) (ht : k.time ≤ 1000000) : evChk (tick p k).1 = 0 := by
  have h0 := hk.time0
  have h1 := (ev_turn hp hk).1
  have h5 := hp.most5
  have key : -1 ≤ (tick p k).1.room ∧ (tick p k).1.room ≤ 4 ∧ 0 ≤ (tick p k).1.pc ∧ (tick p k).1.pc ≤ 19 ∧ 0 ≤ (tick p k).1.what ∧ (tick p k).1.what ≤ 5 ∧ ((tick p k).1.room < 0 → (tick p k).1.pc = 0 ∧ (tick p k).1.what = 0) := by
    unfold tick
    rcases tick_meets hp hk (spans_ok hp) with h0 | ⟨r, ops, s, o, h0, hc, hs, ho⟩
    · rw [tick_none h0]
      simp only []
      exact ⟨by omega, by omega, by omega, by omega, by omega, by omega, fun _ => by first | exact ⟨rfl, rfl⟩ | exact ⟨trivial, trivial⟩ | trivial⟩
    · rw [tick_room h0 hc hs ho]
      have hr := (List.getElem?_eq_some_iff.1 hc).1
      have hcode := codeChk_ok (hp.codes ops (List.mem_of_getElem? hc))
      have hst := (stOk_iff.1 (hk.states r ops s hc hs)).1
      have hw := kDo_what ops.length r o s k
      exact ⟨by simp only []; omega, by simp only []; omega, hst.1, by simp only []; omega, hw.1, hw.2, fun h => by simp only [] at h; omega⟩
  obtain ⟨k1, k2, k3, k4, k5, k6, k7⟩ := key
  unfold evChk
  have hr : evRight (tick p k).1 = true := by
    unfold evRight wIn
    rw [decide_eq_true (show 0 ≤ (tick p k).1.tick by omega), decide_eq_true (show (tick p k).1.tick ≤ 1000000 by omega), decide_eq_true k1, decide_eq_true k2, decide_eq_true k3, decide_eq_true k4, decide_eq_true k5, decide_eq_true k6]
    rfl
  rw [hr, if_neg (by decide), if_neg (fun h => by have := k7 h.1; omega)]

section
variable {p : Pl} {what : List Int} {most : Int}
def cevAt (p : Pl) (what : List Int) (most : Int) (t : Nat) : Ev := (careTick p what most (runC p what most t)).1
def cevsTo (p : Pl) (what : List Int) (most : Int) (n : Nat) : List Ev := (List.range n).map (cevAt p what most)
theorem cevsTo_succ (n : Nat) : cevsTo p what most (n + 1) = cevsTo p what most n ++ [cevAt p what most n] := by simp [cevsTo, List.range_succ]
theorem cevsTo_len (n : Nat) : (cevsTo p what most n).length = n := by simp [cevsTo]
theorem care_time (c : Cst) : (careC p what most c).k.time = c.k.time := by
  unfold careC
  split
  · rfl
  · exact help_time c _
theorem runC_time (hp : PlOk p) (hm : 0 ≤ most) : ∀ t : Nat, (runC p what most t).k.time = t
  | 0 => rfl
  | t + 1 => by
    have hk := (care_ok (what := what) hp (runC_ok hp hm t)).k
    show (tick p (careC p what most (runC p what most t)).k).2.time = _
    rw [tick_room_time p hp _ hk, care_time, runC_time hp hm t]; rfl
theorem cevAt_room (hp : PlOk p) (hm : 0 ≤ most) (t : Nat) : (cevAt p what most t).room = turnAt p.spans ((t : Int) % p.ticks) := by
  have h := (ev_turn hp (care_ok (what := what) hp (runC_ok hp hm t)).k).2
  rw [care_time, runC_time hp hm t] at h
  exact h
theorem cevs_turns (hp : PlOk p) (hm : 0 ≤ most) {T : Nat} (hT : p.ticks = T) (room : Int) (n : Nat) : left room (cevsTo p what most n) = cntH (hitB p.spans T room) 0 n := by
  rw [left_cnt]
  unfold cntF cevsTo cntH
  rw [List.filter_map, List.length_map]
  congr 1
  apply List.filter_congr
  intro t _
  simp only [Function.comp, hitB, Nat.zero_add]
  rw [cevAt_room hp hm t, hT]
theorem cevs_ok (hp : PlOk p) (hm : 0 ≤ most) {n : Nat} (hn : n ≤ 2000) : evsChk (cevsTo p what most n) = 0 := by
  unfold evsChk
  rw [cevsTo_len, if_neg (by omega)]
  refine evsFirst_none fun j y hy => ?_
  have hj : j < n := by
    have := (List.getElem?_eq_some_iff.1 hy).1
    rwa [cevsTo_len] at this
  unfold cevsTo at hy
  rw [List.getElem?_map, List.getElem?_range hj] at hy
  cases hy
  exact ev_right hp (care_ok (what := what) hp (runC_ok hp hm j)).k (by rw [care_time, runC_time hp hm j]; omega)
end
end Go.Proofs.YthafahnlfpkkbaaGreatDoor
