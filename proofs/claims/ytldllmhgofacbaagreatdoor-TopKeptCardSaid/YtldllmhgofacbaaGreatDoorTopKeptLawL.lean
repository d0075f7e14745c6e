/- Plain: a log that goes on, is made safe or not, goes on, and crashes: what it is then. No program in sight. Conditions: none. -/
import Derived.Test.YtldllmhgofacbaaGreatDoorLogLawUL
import Derived.Test.YtldllmhgofacbaaGreatDoorRunUL
namespace Go.Proofs.YtldllmhgofacbaaGreatDoor

def keptL (n : Nat) : Lg := ⟨[.go n], [], 0, -1, false⟩
def keptS (n : Nat) : Lg := ⟨[.go n], [], (recsText [.go n]).length, -1, false⟩
def moreL (L : Lg) (m : Nat) : Lg := ⟨L.done ++ [.go m], [], L.safe, -1, false⟩
theorem goK_add (p : Pl) (n : Nat) : ∀ m : Nat, goK p (runK p n) m = runK p (n + m)
  | 0 => rfl
  | m + 1 => by show (tick p (goK p (runK p n) m)).2 = _; rw [goK_add p n m]; rfl
theorem kept_one (p : Pl) (n : Nat) : runRecs p [.go n] = runK p n := goK_new p n
theorem kept_two (p : Pl) (n m : Nat) : runRecs p [.go n, .go m] = runK p (n + m) := by
  show goK p (goK p (kNew p) n) m = _
  rw [goK_new, goK_add]
theorem kept_go {p : Pl} {L : Lg} {m : Nat} (h1 : L.stopped = false) (h2 : L.left = -1) (hm : m ≤ 100) (ht : (runRecs p L.done).time + m ≤ 2000) : L.goE p m = (0, moreL L m) := by
  unfold Lg.goE
  rw [if_neg (by rw [h1]; decide), if_neg (by omega), if_neg (by omega), Int.toNat_natCast]
  unfold Lg.put Lg.left'
  rw [if_neg (by rw [h2]; decide), if_pos (by rw [h2]; decide)]
  rfl
theorem kept_first {p : Pl} (hp : PlOk p) {n : Nat} (hn : n ≤ 60) : Lg.new.goE p n = (0, keptL n) := by
  refine kept_go rfl rfl (by omega) ?_
  show (kNew p).time + n ≤ 2000
  have : (kNew p).time = 0 := runK_time p hp 0
  omega
theorem kept_sync (n : Nat) : (keptL n).syncE = (0, keptS n) := by
  unfold Lg.syncE
  rw [if_neg (by show ¬ false = true; decide), if_neg (by show ¬ (-1 : Int) = 0; decide)]
  unfold keptL keptS Lg.text Lg.left'
  rw [List.append_nil]
  rfl
theorem kept_next {p : Pl} (hp : PlOk p) {n m : Nat} (hn : n ≤ 60) (hm : m ≤ 60) {L : Lg} (hL : L = keptL n ∨ L = keptS n) : L.goE p m = (0, moreL L m) := by
  have h : L.done = [.go n] ∧ L.stopped = false ∧ L.left = -1 := by rcases hL with rfl | rfl <;> exact ⟨rfl, rfl, rfl⟩
  refine kept_go h.2.1 h.2.2 (by omega) ?_
  rw [h.1, kept_one, runK_time p hp]
  omega
theorem rec_pos (x : Lrec) : 0 < (recText x).length := by
  unfold recText; simp
theorem kept_crash (n m : Nat) : (moreL (keptS n) m).crash 0 = keptS n := by
  have hw : wholeIn [.go n, .go m] (recsText [.go n]).length = 1 := by
    have e : recsText [.go n] = recText (.go n) := by unfold recsText; simp
    rw [e]
    unfold wholeIn
    rw [if_pos (Nat.le_refl _), Nat.sub_self]
    unfold wholeIn
    rw [if_neg (by have := rec_pos (.go m); omega)]
  unfold Lg.crash Lg.keepN
  rw [if_pos (by decide)]
  show (⟨[.go n, .go m].take (wholeIn [.go n, .go m] (recsText [.go n]).length), [], (recsText ([.go n, .go m].take (wholeIn [.go n, .go m] (recsText [.go n]).length))).length, -1, false⟩ : Lg) = keptS n
  rw [hw]
  rfl
theorem lost_crash (n m : Nat) : (moreL (keptL n) m).crash 0 = Lg.new := by
  have hw : wholeIn [.go n, .go m] 0 = 0 := by
    unfold wholeIn
    rw [if_neg (by have := rec_pos (.go n); omega)]
  unfold Lg.crash Lg.keepN
  rw [if_pos (by decide)]
  show (⟨[.go n, .go m].take (wholeIn [.go n, .go m] 0), [], (recsText ([.go n, .go m].take (wholeIn [.go n, .go m] 0))).length, -1, false⟩ : Lg) = Lg.new
  rw [hw]
  rfl
theorem kept_okL {p : Pl} (hp : PlOk p) {n : Nat} (hn : n ≤ 60) : LgOk p (keptL n) := by
  have h := Lg.go_ok hp.most5 (Lg.new_ok p) n
  rw [kept_first hp hn] at h
  exact h
theorem kept_okS {p : Pl} (hp : PlOk p) {n : Nat} (hn : n ≤ 60) : LgOk p (keptS n) := by
  have h := Lg.sync_ok (kept_okL hp hn)
  rw [kept_sync] at h
  exact h
theorem kept_okM {p : Pl} (hp : PlOk p) {n m : Nat} (hn : n ≤ 60) (hm : m ≤ 60) {L : Lg} (hL : L = keptL n ∨ L = keptS n) : LgOk p (moreL L m) := by
  have h0 : LgOk p L := by rcases hL with rfl | rfl; exact kept_okL hp hn; exact kept_okS hp hn
  have h := Lg.go_ok hp.most5 h0 m
  rw [kept_next hp hn hm hL] at h
  exact h
end Go.Proofs.YtldllmhgofacbaaGreatDoor
