/- Plain: the time of a log's kernel is the sum of its ticks. No program is walked. Conditions: none. -/
import Derived.Test.YthafahnlfpkkbaaGreatDoorLogLaw
namespace Go.Proofs.YthafahnlfpkkbaaGreatDoor

def Lrec.ticks : Lrec → Nat
  | .go n => n
  | .poke _ _ _ => 0
def recsTime (l : List Lrec) : Nat := (l.map Lrec.ticks).sum
theorem recsTime_snoc (l : List Lrec) (x : Lrec) : recsTime (l ++ [x]) = recsTime l + x.ticks := by unfold recsTime; simp
theorem goK_time {p : Pl} (hp : PlOk p) {k : Kst} {B : Int} (hk : KOk p k B) : ∀ n : Nat, (goK p k n).time = k.time + n
  | 0 => by show k.time = _; omega
  | n + 1 => by
    show (tick p (goK p k n)).2.time = _
    rw [tick_room_time p hp _ (goK_ok hp hk n), goK_time hp hk n]; omega
theorem doRec_time {p : Pl} (hp : PlOk p) {k : Kst} {B : Int} (hk : KOk p k B) (x : Lrec) : (doRec p k x).time = k.time + x.ticks := by
  cases x with
  | go n => exact goK_time hp hk n
  | poke r c v => show k.time = k.time + ((0 : Nat) : Int); omega
theorem runRecs_time {p : Pl} (hp : PlOk p) {l : List Lrec} (h : ∀ x ∈ l, x.ok p.code.length) : (runRecs p l).time = (recsTime l : Int) := by
  have H : ∀ (n : Nat) (l : List Lrec), l.length = n → (∀ x ∈ l, x.ok p.code.length) → (runRecs p l).time = (recsTime l : Int) := by
    intro n
    induction n with
    | zero => intro l hn _; rw [List.eq_nil_of_length_eq_zero hn]; rfl
    | succ n ih =>
      intro l hn hl
      rcases List.eq_nil_or_concat l with rfl | ⟨t, x, rfl⟩
      · rfl
      · rw [List.concat_eq_append] at *
        have ht : ∀ y ∈ t, y.ok p.code.length := fun y hy => hl y (by simp [hy])
        rw [runRecs_snoc, doRec_time hp (runRecs_ok hp ht), ih t (by simp at hn; omega) ht, recsTime_snoc]; omega
  exact H _ l rfl h
theorem recsTime_take (l : List Lrec) (n : Nat) : recsTime (l.take n) ≤ recsTime l := by
  conv => rhs; rw [← List.take_append_drop n l]
  unfold recsTime
  rw [List.map_append, List.sum_append]; omega
end Go.Proofs.YthafahnlfpkkbaaGreatDoor
