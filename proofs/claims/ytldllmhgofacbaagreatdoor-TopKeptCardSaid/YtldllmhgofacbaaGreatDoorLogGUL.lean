/- Several parts: each begins with what it says. -/
import Derived.Test.YtldllmhgofacbaaGreatDoorStandUL
import Derived.Test.YtldllmhgofacbaaGreatDoorRunUL
import Derived.Test.YtldllmhgofacbaaGreatDoorGetU
import Derived.Test.YtldllmhgofacbaaGreatDoorDeskUL
import Derived.Test.YtldllmhgofacbaaGreatDoorShelf
import Derived.Deep.DeepCutAuto
import Derived.Deep.CutBlock
import Derived.Test.YtldllmhgofacbaaGreatDoorKLawU
import Derived.StillTailTactics
import Derived.Test.YtldllmhgofacbaaGreatDoorLogLawUL
/- Package log: contracts of step, act, keep, Go, Poke, Time and Bytes of a log that has not stopped; and package kernel's Rooms. Conditions: the library's table of powers, which the row lists. -/
namespace Go.Proofs.YtldllmhgofacbaaGreatDoor
open Go.RowKit
set_option maxRecDepth 100000

abbrev kTh (kb : Nat) (p : Pl) (M : KM) (k : Kst) : Tg := kT 145 215 147 kb p M k
/-- A log as it lies: its plan's four cells, its kernel, what is written, what is safe, how many steps are left (below 0: it does not stop). -/
def logCells (v0 v1 v2 v3 : Value) (kb : Nat) (bs : ByteArray) : Array Value := #[v0, v1, v2, v3, .pointer (some ⟨kb, 0, none⟩), .string bs, .int .i64 0, .int .i64 (-1), .bool false]
def logT (lb : Nat) (v0 v1 v2 v3 : Value) (kb : Nat) (bs : ByteArray) : Tg := blkT lb (.cells (logCells v0 v1 v2 v3 kb bs) 187 (0, 0))

theorem krooms_any {w : World} {kb : Nat} {M : KM} {k : Kst} (hka : KAt 145 215 147 w kb M k) :
    Calls Tryz.prog 82 #[.pointer (some ⟨kb, 0, none⟩)] w fun e w' => e = .returned (.tuple #[.int .i64 k.rooms.length, .int .i64 k.lines.length]) ∧ Below w.heap.size w w' := by
  obtain ⟨k0, k1, k2, k4, k5, k6, kf, hkb⟩ := hka.cells
  obtain ⟨a, ha⟩ : ∃ a, a = k.rooms.length := ⟨_, rfl⟩
  obtain ⟨b, hb⟩ : ∃ b, b = k.lines.length := ⟨_, rfl⟩
  rw [← ha] at k4 ⊢
  rw [← hb] at k5 ⊢
  clear k0 k1 k2 k6 kf hka ha hb
  go_enter Tryz.func82, Tryz.ntmps82
  go_wp2_with fail
  go_quiet (fail)
  go_wp2_with fail
  go_ret2
  exact ⟨rfl, below_drewN (Below.refl _ _) _⟩

theorem lstep_any {w : World} {lb kb : Nat} {v0 v1 v2 v3 : Value} {bs : ByteArray} (h : w.heap[lb]? = some (.cells (logCells v0 v1 v2 v3 kb bs) 187 (0, 0))) :
    Calls Tryz.prog 108 #[.pointer (some ⟨lb, 0, none⟩)] w fun e w' => e = .returned (.bool false) ∧ Keep (fun j => j = lb) w w' ∧ w'.heap[lb]? = some (.cells (logCells v0 v1 v2 v3 kb bs) 187 (0, 0)) := by
  unfold logCells at h
  have c7 := blk_cell h 7
  have c8 := blk_cell h 8
  have f7 := blk_free h 7
  have f8 := blk_free h 8
  have hl := blk_lt h
  simp at c7 c8
  have H := hid h
  clear h
  go_enter Tryz.func108, Tryz.ntmps108
  go_wp2_with fail
  go_ret
  refine ⟨rfl, ((Keep.refl (fun j => j = lb) w).setCell (.inl rfl) _).setCell (.inl rfl) _, ?_⟩
  have h1 := blk_set (blk_set H.out 8 (.bool false)) 7 (.int .i64 (-min 1 2))
  exact h1
theorem ltime_any {w : World} {lb kb : Nat} {v0 v1 v2 v3 : Value} {bs : ByteArray} {M : KM} {k : Kst} (h : w.heap[lb]? = some (.cells (logCells v0 v1 v2 v3 kb bs) 187 (0, 0))) (hka : KAt 145 215 147 w kb M k) :
    Calls Tryz.prog 48 #[.pointer (some ⟨lb, 0, none⟩)] w fun e w' => e = .returned (.int .i64 k.time) ∧ w = w' := by
  unfold logCells at h
  have c4 := blk_cell h 4
  have hl := blk_lt h
  simp at c4
  have HT := hid (ktime_any hka)
  clear h hka
  go_enter Tryz.func48, Tryz.ntmps48
  go_wp2_with (go_at_call 24; refine HT.out.mono ?_; rintro e w1 ⟨rfl, rfl⟩)
  go_ret
  exact ⟨rfl, rfl⟩
theorem lbytes_any {w : World} {lb kb : Nat} {v0 v1 v2 v3 : Value} {bs : ByteArray} (h : w.heap[lb]? = some (.cells (logCells v0 v1 v2 v3 kb bs) 187 (0, 0))) :
    Calls Tryz.prog 49 #[.pointer (some ⟨lb, 0, none⟩)] w fun e w' => e = .returned (.int .i64 bs.size) ∧ w = w' := by
  unfold logCells at h
  have c5 := blk_cell h 5
  have hl := blk_lt h
  simp at c5
  clear h
  go_enter Tryz.func49, Tryz.ntmps49
  go_wp2_with fail
  go_ret
  exact ⟨rfl, rfl⟩
end Go.Proofs.YtldllmhgofacbaaGreatDoor

/- Package log: contracts of act on a kernel that stands: so many ticks, or a cell that is poked. Conditions: none. -/
namespace Go.Proofs.YtldllmhgofacbaaGreatDoor
open Go.RowKit
set_option maxRecDepth 100000

section
variable {w0 w : World} {kb : Nat} {p : Pl} {M : KM} {k : Kst} {ts : List Tg}
theorem ltick {B : Int} (hp : PlOk p) (hk : KOk p k B) (hB : B < 4611686018427387904) (h : Stand w0 w (kTh kb p M k :: ts)) :
    Calls Tryz.prog 23 #[.pointer (some ⟨kb, 0, none⟩)] w fun e w' => ∃ (a b c d : Int) (M' : KM), e = .returned (.agg #[.int .i64 a, .int .i64 b, .int .i64 c, .int .i64 d]) ∧ Stand w0 w' (kTh kb p M' (tick p k).2 :: ts) := by
  have hl := h.get (i := 0) rfl
  refine (ktick_any w kb M k p B hp hl.here.2 hk hB hl.here.1).mono ?_
  rintro e w' ⟨M', rfl, h1, h2, h3, h4⟩
  exact ⟨_, _, _, _, M', rfl, h.go 0 rfl (k_went hl h1 h2 h3 h4)⟩
theorem lpoke (r c v : Int) (hn : k.rooms.length ≤ 5) (hb : pokeOk k.rooms.length r c v = true) (h : Stand w0 w (kTh kb p M k :: ts)) :
    Calls Tryz.prog 186 #[.pointer (some ⟨kb, 0, none⟩), .int .i64 r, .int .i64 c, .int .i64 v] w fun e w' => e = .returned .nilIface ∧ Stand w0 w' (kTh kb p M (pokeK k r c v) :: ts) := by
  have hl := h.get (i := 0) rfl
  refine (kpoke_ok r c v hn hl.here.1 hb).mono ?_
  rintro e w' ⟨rfl, h1, h2, _⟩
  exact ⟨rfl, h.go 0 rfl (k_went hl h1 ⟨rfl, rfl⟩ h2 fun j hj => .inl hj)⟩
theorem lact_ticks (hp : PlOk p) (n : Nat) (hn : n ≤ 100) (nb off c : Nat) (hc : w.cell? ⟨nb, off, none⟩ = some (.int .i64 n)) (h : Stand w0 w (kTh kb p M (runK p 0) :: ts)) :
    Calls Tryz.prog 155 #[.pointer (some ⟨kb, 0, none⟩), .slice (some ⟨nb, off, none⟩) 1 c] w fun e w' => e = .returned .nilIface ∧ ∃ M', Stand w0 w' (kTh kb p M' (runK p n) :: ts) := by
  have HST := hid h
  have HP := hid hp
  have hlt := cell_lt hc
  clear h hp
  go_enter Tryz.func155, Tryz.ntmps155
  go_wp2_with fail
  go_loopw [26] (fun v26 wr => ∃ (i : Nat) (M' : KM), i ≤ n ∧ v26 = .int .i64 i ∧ Stand w0 wr (kTh kb p M' (runK p i) :: ts)) (fun v26 _ => n - (intOf v26).toNat)
  case atStart => exact ⟨0, M, by omega, rfl, HST.out⟩
  case round =>
    obtain ⟨i, M', hi, rfl, hst⟩ := hrel
    have HS := hid hst
    clear hst
    by_cases hin : i < n
    · have HT : Hid (Calls Tryz.prog 23 #[.pointer (some ⟨kb, 0, none⟩)] wr fun e w' => ∃ (a b c d : Int) (M' : KM), e = .returned (.agg #[.int .i64 a, .int .i64 b, .int .i64 c, .int .i64 d]) ∧ Stand w0 w' (kTh kb p M' (runK p (i + 1)) :: ts)) :=
        ltick HP.out (runK_ok HP.out i) (by omega) HS.out
      go_wp2_with (go_at_call 23; refine HT.out.mono ?_; rintro e w3 ⟨ea, eb, ec, ed, M2, rfl, hst3⟩; have HS3 := hid hst3; clear hst3 HT)
      go_roundw
      case rel => exact ⟨i + 1, M2, by omega, by go_num, HS3.out⟩
      case measure => simp [intOf]; omega
    · obtain rfl : i = n := by omega
      go_wp2_with fail
      go_ret
      exact ⟨rfl, M', HS.out⟩
theorem lact_poke (r c v : Int) (hn : k.rooms.length ≤ 5) (hb : pokeOk k.rooms.length r c v = true) (nb off cc : Nat) (h0 : w.cell? ⟨nb, off, none⟩ = some (.int .i64 r)) (h1 : w.cell? ⟨nb, off + 1, none⟩ = some (.int .i64 c)) (h2 : w.cell? ⟨nb, off + 2, none⟩ = some (.int .i64 v))
    (h : Stand w0 w (kTh kb p M k :: ts)) :
    Calls Tryz.prog 155 #[.pointer (some ⟨kb, 0, none⟩), .slice (some ⟨nb, off, none⟩) 3 cc] w fun e w' => e = .returned .nilIface ∧ ∃ M', Stand w0 w' (kTh kb p M' (pokeK k r c v) :: ts) := by
  have HST := hid h
  have HN := hid hn
  have HB := hid hb
  have hlt := cell_lt h0
  clear h hn hb
  go_enter Tryz.func155, Tryz.ntmps155
  go_wp2_with fail
  go_still_tail 10, (by kernel_rfl)
  go_wp2_with fail
  refine (lpoke r c v HN.out HB.out (HST.out.new (Below.refl _ _).drew)).mono ?_
  rintro e w3 ⟨rfl, hst⟩
  have HS := hid hst
  clear hst
  go_wp2_with fail
  go_ret
  exact ⟨rfl, M, HS.out⟩
end
end Go.Proofs.YtldllmhgofacbaaGreatDoor

/- Package log: a log as it lies, whatever it holds; and the contracts of step, Sync, Fail, Time, Bytes, Safe and State. Conditions: none. -/
namespace Go.Proofs.YtldllmhgofacbaaGreatDoor
open Go.RowKit
set_option maxRecDepth 100000

/-- A log's cells: its plan, its kernel, its bytes, how many are safe, how many steps are left, whether it has stopped. -/
def lgCells (m : PM) (kb : Nat) (L : Lg) : Array Value := #[.slice m.A m.ros.length m.c, .int .i64 m.ticks, .slice m.sA m.spans.length m.sc, .slice m.wA m.wires.length m.wc, .pointer (some ⟨kb, 0, none⟩), txt L.text, .int .i64 L.safe, .int .i64 L.left, .bool L.stopped]
def lgT (lb : Nat) (m : PM) (kb : Nat) (L : Lg) : Tg := blkT lb (.cells (lgCells m kb L) 187 (0, 0))
/-- A log that stands. -/
def LgAt (w0 w : World) (lb : Nat) (m : PM) (L : Lg) (ts : List Tg := []) : Prop := ∃ (kb : Nat) (M : KM), Stand w0 w (kTh kb m.pl M (runRecs m.pl L.done) :: lgT lb m kb L :: planT m :: ts)
/-- The last of them put further ahead; one of them left. -/
theorem Stand.ins {w0 w : World} {us ts : List Tg} {t : Tg} (h : Stand w0 w ((us ++ ts) ++ [t])) : Stand w0 w (us ++ t :: ts) := by
  refine h.sub (fun i => if i < us.length then i else if i = us.length then us.length + ts.length else i - 1) (fun i u hi => ?_) (fun i j h1 h2 hne => ?_)
  · have hl := (List.getElem?_eq_some_iff.1 hi).1
    simp only [List.length_append, List.length_cons] at hl
    by_cases c1 : i < us.length
    · rw [if_pos c1, List.getElem?_append_left (by rw [List.length_append]; omega), List.getElem?_append_left c1]
      rw [List.getElem?_append_left c1] at hi
      exact hi
    · rw [List.getElem?_append_right (by omega)] at hi
      rw [if_neg c1]
      by_cases c2 : i = us.length
      · rw [if_pos c2, List.getElem?_append_right (by rw [List.length_append]; omega), List.length_append]
        rw [c2] at hi
        simpa using hi
      · rw [if_neg c2, List.getElem?_append_left (by rw [List.length_append]; omega), List.getElem?_append_right (by omega)]
        rw [show i - us.length = (i - 1 - us.length) + 1 by omega, List.getElem?_cons_succ] at hi
        exact hi
  · simp only [List.length_append, List.length_cons] at h1 h2
    repeat' split
    all_goals omega
theorem Stand.del {w0 w : World} {us ts : List Tg} {t : Tg} (h : Stand w0 w (us ++ t :: ts)) : Stand w0 w (us ++ ts) := by
  refine h.sub (fun i => if i < us.length then i else i + 1) (fun i u hi => ?_) (fun i j h1 h2 hne => ?_)
  · by_cases c1 : i < us.length
    · rw [if_pos c1, List.getElem?_append_left c1]
      rw [List.getElem?_append_left c1] at hi
      exact hi
    · rw [List.getElem?_append_right (by omega)] at hi
      rw [if_neg c1, List.getElem?_append_right (by omega), show i + 1 - us.length = (i - us.length) + 1 by omega, List.getElem?_cons_succ]
      exact hi
  · repeat' split
    all_goals omega
theorem lg_went {w w' : World} {lb kb kb' : Nat} {m : PM} {L L' : Lg} (hk : Keep (fun j => j = lb) w w') (hx : w'.heap[lb]? = some (.cells (lgCells m kb' L') 187 (0, 0))) :
    Went w w' (lgT lb m kb L) (lgT lb m kb' L') := ⟨blk_lie hx, hk, fun _ h => .inl h, fun _ h => .inl h⟩
section
variable {w0 w : World} {lb : Nat} {m : PM} {L : Lg} {ts : List Tg}
theorem LgAt.new {w' : World} (h : LgAt w0 w lb m L ts) (hb : Below w.heap.size w w') : LgAt w0 w' lb m L ts := by
  obtain ⟨kb, M, h⟩ := h; exact ⟨kb, M, h.new hb⟩
theorem LgAt.below (h : LgAt w0 w lb m L ts) : Below w0.heap.size w0 w := by obtain ⟨kb, M, h⟩ := h; exact h.below
theorem LgAt.base {wb : World} (h : LgAt w0 w lb m L ts) (hb : Below wb.heap.size wb w0) : LgAt wb w lb m L ts := by
  obtain ⟨kb, M, h⟩ := h; exact ⟨kb, M, h.base hb⟩
end

set_option maxHeartbeats 1000000 in
theorem lgstep_any {w : World} {lb : Nat} {v0 v1 v2 v3 v4 v5 v6 : Value} {left : Int} {st : Bool} (h0 : -1 ≤ left) (h1 : left ≤ 9223372036854775807) (h : w.heap[lb]? = some (.cells #[v0, v1, v2, v3, v4, v5, v6, .int .i64 left, .bool st] 187 (0, 0))) :
    Calls Tryz.prog 108 #[.pointer (some ⟨lb, 0, none⟩)] w fun e w' => e = .returned (.bool (decide (left = 0))) ∧ Keep (fun j => j = lb) w w' ∧
      w'.heap[lb]? = some (.cells #[v0, v1, v2, v3, v4, v5, v6, .int .i64 (if left ≤ 0 then -1 else left - 1), .bool (decide (left = 0))] 187 (0, 0)) := by
  have c7 := blk_cell h 7
  have c8 := blk_cell h 8
  have f7 := blk_free h 7
  have f8 := blk_free h 8
  have hl := blk_lt h
  simp at c7 c8
  have H := hid h
  clear h
  rcases (show left = -1 ∨ left = 0 ∨ 1 ≤ left by omega) with rfl | rfl | h2
  · go_enter Tryz.func108, Tryz.ntmps108
    go_wp2_with fail
    go_ret
    refine ⟨rfl, ((Keep.refl (fun j => j = lb) w).setCell (.inl rfl) _).setCell (.inl rfl) _, ?_⟩
    exact blk_set (blk_set H.out 8 (.bool false)) 7 (.int .i64 (-min 1 2))
  · go_enter Tryz.func108, Tryz.ntmps108
    go_wp2_with fail
    go_ret
    refine ⟨rfl, ((Keep.refl (fun j => j = lb) w).setCell (.inl rfl) _).setCell (.inl rfl) _, ?_⟩
    exact blk_set (blk_set H.out 8 (.bool true)) 7 _
  · have e0 : decide (left = 0) = false := decide_eq_false (by omega)
    have e1 : (if left ≤ 0 then (-1 : Int) else left - 1) = left - 1 := if_neg (by omega)
    have e2 : (left == 0) = false := by rw [beq_eq_false_iff_ne]; omega
    rw [e0, e1]
    have HE := hid e1
    clear e1
    go_enter Tryz.func108, Tryz.ntmps108
    go_wp2_with fail
    go_ret
    refine ⟨rfl, ((Keep.refl (fun j => j = lb) w).setCell (.inl rfl) _).setCell (.inl rfl) _, ?_⟩
    have e3 : max (-1) (left - 1) = left - 1 := by omega
    rw [e3]
    exact blk_set (blk_set H.out 8 (.bool false)) 7 _

section
variable {w0 w : World} {lb : Nat} {m : PM} {L : Lg} {ts : List Tg}
theorem lgtime_any (h : LgAt w0 w lb m L ts) :
    Calls Tryz.prog 48 #[.pointer (some ⟨lb, 0, none⟩)] w fun e w' => e = .returned (.int .i64 (runRecs m.pl L.done).time) ∧ w = w' := by
  obtain ⟨kb, M, h⟩ := h
  have hx : w.heap[lb]? = some (.cells (lgCells m kb L) 187 (0, 0)) := (h.get (i := 1) rfl).here
  unfold lgCells at hx
  have c4 := blk_cell hx 4
  have hl := blk_lt hx
  simp at c4
  have HT := hid (ktime_any (h.get (i := 0) rfl).here.1)
  clear h hx
  go_enter Tryz.func48, Tryz.ntmps48
  go_wp2_with (go_at_call 24; refine HT.out.mono ?_; rintro e w1 ⟨rfl, rfl⟩)
  go_ret
  exact ⟨rfl, rfl⟩
theorem lgbytes_any (h : LgAt w0 w lb m L ts) :
    Calls Tryz.prog 49 #[.pointer (some ⟨lb, 0, none⟩)] w fun e w' => e = .returned (.int .i64 L.text.length) ∧ w = w' := by
  obtain ⟨kb, M, h⟩ := h
  have hx : w.heap[lb]? = some (.cells (lgCells m kb L) 187 (0, 0)) := (h.get (i := 1) rfl).here
  unfold lgCells txt at hx
  have c5 := blk_cell hx 5
  have hl := blk_lt hx
  simp at c5
  have hz : (⟨L.text.toArray⟩ : ByteArray).size = L.text.length := by rw [Lib.size_eq]
  obtain ⟨S, hS⟩ : ∃ S : ByteArray, S = ⟨L.text.toArray⟩ := ⟨_, rfl⟩
  rw [← hS] at c5 hz
  obtain ⟨n, hn⟩ : ∃ n, n = L.text.length := ⟨_, rfl⟩
  rw [← hn] at hz ⊢
  subst hz
  clear h hx hS hn
  go_enter Tryz.func49, Tryz.ntmps49
  go_wp2_with fail
  go_ret
  exact ⟨rfl, rfl⟩
theorem lgsafe_any (h : LgAt w0 w lb m L ts) :
    Calls Tryz.prog 50 #[.pointer (some ⟨lb, 0, none⟩)] w fun e w' => e = .returned (.int .i64 L.safe) ∧ w = w' := by
  obtain ⟨kb, M, h⟩ := h
  have hx : w.heap[lb]? = some (.cells (lgCells m kb L) 187 (0, 0)) := (h.get (i := 1) rfl).here
  unfold lgCells at hx
  have c6 := blk_cell hx 6
  have hl := blk_lt hx
  simp at c6
  obtain ⟨n, hn⟩ : ∃ n, n = L.safe := ⟨_, rfl⟩
  rw [← hn] at c6 ⊢
  clear h hx hn
  go_enter Tryz.func50, Tryz.ntmps50
  go_wp2_with fail
  go_ret
  exact ⟨rfl, rfl⟩
theorem lgstate_any (hp : PlOk m.pl) (hL : LgOk m.pl L) {r : Nat} {s : St} (hr : (runRecs m.pl L.done).rooms[r]? = some s) (h : LgAt w0 w lb m L ts) :
    Calls Tryz.prog 57 #[.pointer (some ⟨lb, 0, none⟩), .int .i64 r] w fun e w' => e = .returned (.tuple #[.agg (stV s), .nilIface]) ∧ Below w.heap.size w w' := by
  obtain ⟨kb, M, h⟩ := h
  have hx : w.heap[lb]? = some (.cells (lgCells m kb L) 187 (0, 0)) := (h.get (i := 1) rfl).here
  unfold lgCells at hx
  have hk := runRecs_ok hp hL.recs
  obtain ⟨wa, hwa⟩ : ∃ wa, wa = w.alloc (.cells #[.int .i64 0, .int .i64 0, .int .i64 0, .int .i64 0, .int .i64 0, .int .i64 0, .int .i64 0, .bool false] 106) := ⟨_, rfl⟩
  have hba : Below w.heap.size w wa := by rw [hwa]; exact (Below.refl _ _).alloc (Nat.le_refl _) _
  have hblk : wa.heap[w.heap.size]? = some (.cells #[.int .i64 0, .int .i64 0, .int .i64 0, .int .i64 0, .int .i64 0, .int .i64 0, .int .i64 0, .bool false] 106 (0, 0)) := by rw [hwa]; exact heap_alloc_new _ _
  have c4 := blk_cell hx 4
  have hl := blk_lt hx
  simp at c4
  have HST : Hid (Calls Tryz.prog 58 #[.pointer (some ⟨kb, 0, none⟩), .int .i64 r] wa fun e w' => e = .returned (.tuple #[.agg (stV s), .nilIface]) ∧ Below wa.heap.size wa w') := by
    have h1 := kstate_any (r : Int) (by rw [hk.rooms]; exact hp.most5) ((h.new hba).get (i := 0) rfl).here.1
    have hlt := (List.getElem?_eq_some_iff.1 hr).1
    have h2 : stateOf (runRecs m.pl L.done) (r : Int) = (s, 0) := by
      unfold stateOf inB
      rw [if_pos (decide_eq_true (by omega)), Int.toNat_natCast, List.getD_eq_getElem?_getD, hr]; rfl
    rw [h2] at h1
    refine h1.mono fun e w' h3 => ?_
    unfold StateV at h3
    rw [errV_zero] at h3
    exact h3
  have HBA := hid hba
  have HBLK := hid hblk
  obtain ⟨pc, c0, c1, c2, c3, c4', c5, f⟩ := s
  unfold stV at HST ⊢
  simp only [] at HST ⊢
  clear h hx hk hba hblk hr hp hL
  go_enter Tryz.func57, Tryz.ntmps57
  go_wp2_with fail
  rw [← hwa]
  refine HST.out.mono ?_
  rintro e1 w2 ⟨rfl, hb2⟩
  have hx2 := (hb2.block _ (blk_lt HBLK.out)).trans HBLK.out
  have HB2 := hid (HBA.out.trans (hb2.mono HBA.out.size))
  have r0 := blk_cell hx2 0
  have r1 := blk_cell hx2 1
  have r2 := blk_cell hx2 2
  have r3 := blk_cell hx2 3
  have r4 := blk_cell hx2 4
  have r5 := blk_cell hx2 5
  have r6 := blk_cell hx2 6
  have r7 := blk_cell hx2 7
  have rf := fun j => blk_free hx2 j
  have hlr := blk_lt hx2
  simp at r0 r1 r2 r3 r4 r5 r6 r7
  clear hx2 hb2 c4 hl hwa
  go_wp2_with fail
  refine bodyPost_ret (v := .tuple #[.agg #[.int .i64 pc, .int .i64 c0, .int .i64 c1, .int .i64 c2, .int .i64 c3, .int .i64 c4', .int .i64 c5, .bool f], .nilIface]) (by simp [results, Tryz.results57, go_sem, r0, r1, r2, r3, r4, r5, r6, r7]) rfl ?_
  exact ⟨rfl, ((((((((HB2.out.setCell (Nat.le_refl _) _).setCell (Nat.le_refl _) _).setCell (Nat.le_refl _) _).setCell (Nat.le_refl _) _).setCell (Nat.le_refl _) _).setCell (Nat.le_refl _) _).setCell (Nat.le_refl _) _).setCell (Nat.le_refl _) _)⟩
theorem lgfail_any (n : Int) (hn : n ≤ 9223372036854775807) (hn0 : -9223372036854775808 ≤ n) (h : LgAt w0 w lb m L ts) :
    Calls Tryz.prog 51 #[.pointer (some ⟨lb, 0, none⟩), .int .i64 n] w fun e w' => e = .returned (.tuple #[]) ∧ LgAt w0 w' lb m (L.fail n) ts := by
  obtain ⟨kb, M, h⟩ := h
  have hx : w.heap[lb]? = some (.cells (lgCells m kb L) 187 (0, 0)) := (h.get (i := 1) rfl).here
  have HX := hid hx
  unfold lgCells at hx
  have c7 := blk_cell hx 7
  have f7 := blk_free hx 7
  have hl := blk_lt hx
  simp at c7
  have HS := hid h
  clear h hx
  have FIN : Hid (LgAt w0 (w.setCell ⟨lb, 7, none⟩ (.int .i64 (max (-1) n))) lb m (L.fail n) ts) := hid (by
    have hv : max (-1) n = (if n < 0 then -1 else n) := by split <;> omega
    rw [hv]
    refine ⟨kb, M, HS.out.go 1 rfl (lg_went ((Keep.refl (fun j => j = lb) w).setCell (.inl rfl) _) ?_)⟩
    exact blk_set HX.out 7 _)
  clear HX HS
  go_enter Tryz.func51, Tryz.ntmps51
  go_wp2_with fail
  go_end0
  exact ⟨rfl, FIN.out⟩
end
end Go.Proofs.YtldllmhgofacbaaGreatDoor

/- Package log: the contract of act on a kernel that stands, for every record. Conditions: none. -/
namespace Go.Proofs.YtldllmhgofacbaaGreatDoor
open Go.RowKit
set_option maxRecDepth 100000

section
variable {w0 w : World} {kb : Nat} {p : Pl} {M : KM} {k : Kst} {ts : List Tg}
set_option maxHeartbeats 1000000 in
theorem lact_go {B : Int} (hp : PlOk p) (hk : KOk p k B) (hB : B < 4000000000000000000) (n : Nat) (hn : n ≤ 100) (nb off c : Nat) (hc : w.cell? ⟨nb, off, none⟩ = some (.int .i64 n)) (h : Stand w0 w (kTh kb p M k :: ts)) :
    Calls Tryz.prog 155 #[.pointer (some ⟨kb, 0, none⟩), .slice (some ⟨nb, off, none⟩) 1 c] w fun e w' => e = .returned .nilIface ∧ ∃ M', Stand w0 w' (kTh kb p M' (goK p k n) :: ts) := by
  have HST := hid h
  have HP := hid hp
  have HK := hid hk
  have hlt := cell_lt hc
  clear h hp hk
  go_enter Tryz.func155, Tryz.ntmps155
  go_wp2_with fail
  go_loopw [26] (fun v26 wr => ∃ (i : Nat) (M' : KM), i ≤ n ∧ v26 = .int .i64 i ∧ Stand w0 wr (kTh kb p M' (goK p k i) :: ts)) (fun v26 _ => n - (intOf v26).toNat)
  case atStart => exact ⟨0, M, by omega, rfl, HST.out⟩
  case round =>
    obtain ⟨i, M', hi, rfl, hst⟩ := hrel
    have HS := hid hst
    clear hst
    by_cases hin : i < n
    · have HT : Hid (Calls Tryz.prog 23 #[.pointer (some ⟨kb, 0, none⟩)] wr fun e w' => ∃ (a b c d : Int) (M' : KM), e = .returned (.agg #[.int .i64 a, .int .i64 b, .int .i64 c, .int .i64 d]) ∧ Stand w0 w' (kTh kb p M' (goK p k (i + 1)) :: ts)) :=
        ltick HP.out (goK_ok HP.out HK.out i) (by omega) HS.out
      go_wp2_with (go_at_call 23; refine HT.out.mono ?_; rintro e w3 ⟨ea, eb, ec, ed, M2, rfl, hst3⟩; have HS3 := hid hst3; clear hst3 HT)
      go_roundw
      case rel => exact ⟨i + 1, M2, by omega, by go_num, HS3.out⟩
      case measure => simp [intOf]; omega
    · obtain rfl : i = n := by omega
      go_wp2_with fail
      go_ret
      exact ⟨rfl, M', HS.out⟩
theorem lact_rec {B : Int} (hp : PlOk p) (hk : KOk p k B) (hB : B < 4000000000000000000) {x : Lrec} (hx : x.ok p.code.length) (nb off cap : Nat) (hc : ∀ (j : Nat) u, (ints (x.nums.map Int.ofNat))[j]? = some u → w.cell? ⟨nb, off + j, none⟩ = some u) (h : Stand w0 w (kTh kb p M k :: ts)) :
    Calls Tryz.prog 155 #[.pointer (some ⟨kb, 0, none⟩), .slice (some ⟨nb, off, none⟩) x.nums.length cap] w fun e w' => e = .returned .nilIface ∧ ∃ M', Stand w0 w' (kTh kb p M' (doRec p k x) :: ts) := by
  cases x with
  | go n => exact lact_go hp hk hB n hx nb off cap (hc 0 _ rfl) h
  | poke r c v => exact lact_poke r c v (by rw [hk.rooms]; exact hp.most5) (by rw [hk.rooms]; exact lrec_poke hx) nb off cap (hc 0 _ rfl) (hc 1 _ rfl) (hc 2 _ rfl) h
end
end Go.Proofs.YtldllmhgofacbaaGreatDoor

/- Package log: contracts of keep, Go and Poke of a log that has not stopped. Conditions: the library's table of powers, which the row lists. -/
namespace Go.Proofs.YtldllmhgofacbaaGreatDoor
open Go.RowKit
set_option maxRecDepth 100000

/-- A number as a text. -/
def digV (n : Int) : Value := .string ⟨(Lib.itoa n).toArray⟩
/-- The bytes of a log grow. -/
theorem log_went {w w' : World} {lb kb : Nat} {v0 v1 v2 v3 : Value} {bs bs' : ByteArray} (hk : Keep (fun j => j = lb) w w') (hx : w'.heap[lb]? = some (.cells (logCells v0 v1 v2 v3 kb bs') 187 (0, 0))) :
    Went w w' (logT lb v0 v1 v2 v3 kb bs) (logT lb v0 v1 v2 v3 kb bs') := ⟨blk_lie hx, hk, fun _ h => .inl h, fun _ h => .inl h⟩
theorem lens_le : ∀ (xs : List (List UInt8)) (n : Nat), (∀ x ∈ xs, x.length ≤ n) → Lib.lens xs ≤ xs.length * n
  | [], _, _ => by simp [Lib.lens]
  | x :: xs, n, h => by
    have h1 := h x (by simp)
    have h2 := lens_le xs n fun y hy => h y (by simp [hy])
    simp only [Lib.lens, List.map_cons, List.sum_cons, List.length_cons, Nat.succ_mul] at h2 ⊢
    omega
theorem join_len (xs : List (List UInt8)) (n : Nat) (h : ∀ x ∈ xs, x.length ≤ n) : (Lib.join xs [32]).length ≤ xs.length * n + xs.length := by
  cases xs with
  | nil => simp [Lib.join_nil]
  | cons x r =>
    have h2 := lens_le (x :: r) n h
    rw [Lib.join_length]
    simp only [List.length_cons, List.length_nil] at h2 ⊢
    omega

set_option maxHeartbeats 4000000 in
theorem lkeep_any {w0 w : World} {lb kb nb : Nat} {v0 v1 v2 v3 : Value} {bs : ByteArray} {p : Pl} {M : KM} {k k' : Kst} (l : List Int) (hl1 : 1 ≤ l.length) (hl3 : l.length ≤ 3) (hfit : ∀ n ∈ l, 0 ≤ n ∧ n ≤ 1000) (hbs : bs.size ≤ 1000)
    (hp : Pows w0) (hpl : 5 < w0.heap.size)
    (h : Stand w0 w [kTh kb p M k, logT lb v0 v1 v2 v3 kb bs, conT nb (.cells (ints l).toArray 3 (0, 0))])
    (hact : ∀ w' bs', Stand w0 w' [kTh kb p M k, logT lb v0 v1 v2 v3 kb bs', conT nb (.cells (ints l).toArray 3 (0, 0))] →
      Calls Tryz.prog 155 #[.pointer (some ⟨kb, 0, none⟩), .slice (some ⟨nb, 0, none⟩) l.length l.length] w' fun e w'' => e = .returned .nilIface ∧ ∃ M', Stand w0 w'' [kTh kb p M' k', logT lb v0 v1 v2 v3 kb bs', conT nb (.cells (ints l).toArray 3 (0, 0))]) :
    Calls Tryz.prog 107 #[.pointer (some ⟨lb, 0, none⟩), .slice (some ⟨nb, 0, none⟩) l.length l.length] w fun e w' => e = .returned .nilIface ∧
      ∃ (bs' : ByteArray) (M' : KM), bs.size < bs'.size ∧ bs'.size ≤ bs.size + 100 ∧ Stand w0 w' [kTh kb p M' k', logT lb v0 v1 v2 v3 kb bs', conT nb (.cells (ints l).toArray 3 (0, 0))] := by
  obtain ⟨i0, hi0, hz0, hz1, hz2⟩ := info_parts Tryz.infoStr
  have HST := hid h
  have HACT := hid hact
  have HFIT := hid hfit
  have HPW : Hid (∀ w', Below w0.heap.size w0 w' → Pows w') := fun w' hb => hp.new hpl hb
  obtain ⟨n, hn⟩ : ∃ n, n = l.length := ⟨_, rfl⟩
  rw [← hn] at hl1 hl3 HACT ⊢
  have HN := hid hn
  clear h hact hfit hp hpl hn
  go_enter Tryz.func107, Tryz.ntmps107
  go_wp2_with fail
  go_loopw [5, 11] (fun v5 v11 wr => ∃ (j : Nat) (A : Option Addr) (cap : Nat), j ≤ n ∧ v5 = .slice A j cap ∧ v11 = .int .i64 j ∧
    Stand w0 wr [kTh kb p M k, logT lb v0 v1 v2 v3 kb bs, conT nb (.cells (ints l).toArray 3 (0, 0)), rowT 9 1 A j cap ((l.map digV).take j)]) (fun _ v11 _ => n - (intOf v11).toNat)
  case atStart => exact ⟨0, none, 0, by omega, rfl, rfl, stand_nil HST.out _ _⟩
  case round =>
    obtain ⟨j, A, cap, hj, rfl, rfl, hst⟩ := hrel
    have HS := hid hst
    have hnb : wr.heap[nb]? = some (.cells (ints l).toArray 3 (0, 0)) := (hst.get (i := 2) rfl).here
    have hnl := blk_lt hnb
    clear hst
    by_cases hjn : j < n
    · have hjl : j < l.length := by rw [← HN.out]; exact hjn
      have hget := List.getElem?_eq_getElem hjl
      have hk : wr.cell? ⟨nb, j, none⟩ = some (.int .i64 l[j]) := by
        rw [blk_cell hnb]; unfold ints; rw [List.getElem?_toArray, List.getElem?_map, hget]; rfl
      have hfx := HFIT.out l[j] (List.getElem_mem hjl)
      have hnext : (l.map digV).take (j + 1) = (l.map digV).take j ++ [digV l[j]] := by rw [List.take_succ_eq_append_getElem (by rw [List.length_map]; exact hjl), List.getElem_map]
      generalize l[j] = x at hget hk hfx hnext
      obtain ⟨S2, hS2⟩ : ∃ S2 : ByteArray, S2 = ⟨(Lib.itoa x).toArray⟩ := ⟨_, rfl⟩
      have HIT : Hid (Calls Tryz.prog 99 #[.int .i64 x] wr fun e w'' => e = .returned (.string S2) ∧ Below wr.heap.size wr w'') := by
        rw [hS2]; exact itoaS_any x (by omega) (by omega) wr (HPW.out _ HS.out.below)
      have HNX : Hid ((l.map digV).take (j + 1) = (l.map digV).take j ++ [.string S2]) := by rw [hnext, hS2]; rfl
      clear hget hfx hnext hS2 hnb
      go_wp2_with (first
        | (go_at_call 99; refine HIT.out.mono ?_; rintro e w5 ⟨rfl, hb5⟩; have HS5 := hid (HS.out.new hb5); clear hb5 HIT)
        | (at_builtin; refine wpList_append_row _ rfl _ _ 78 rfl 9 i0 (.string ⟨#[]⟩) 1 16 Tryz.underlying78 hi0 hz0 hz1 hz2 rfl (by decide) A j cap ((l.map digV).take j) rfl ?c0 (some ⟨w5.heap.size, 0, none⟩) 1 1 [.string S2] rfl ?c1 ?c2 ?c3 ?c4 ?_))
      case c0 => exact Row.alloc (HS5.out.get (i := 3) rfl).here _
      case c1 => exact one_sl w5 _ _
      case c2 => intro u hu; simp at hu; subst hu; rfl
      case c3 => unfold maxLen; omega
      case c4 => omega
      intro A' cap' w6 hrow6 hkeep6 hin6
      rw [← HNX.out] at hrow6
      have hst6 := (HS5.out.new ((Below.refl _ w5).alloc (Nat.le_refl _) (.cells #[.string S2] 9))).go 3 rfl (row_went hrow6 hkeep6 (fun i hi => by rw [sz_alloc]; exact hin6 i hi))
      have HS6 : Hid (Stand w0 w6 [kTh kb p M k, logT lb v0 v1 v2 v3 kb bs, conT nb (.cells (ints l).toArray 3 (0, 0)), rowT 9 1 A' (j + 1) cap' ((l.map digV).take (j + 1))]) := hst6
      clear hrow6 hkeep6 hin6 hst6
      go_wp2_with fail
      go_roundw
      case rel => exact ⟨j + 1, A', cap', by omega, by go_num, by go_num, HS6.out⟩
      case measure => simp [intOf]; omega
    · obtain rfl : j = n := by omega
      have htk : (l.map digV).take j = l.map digV := by rw [List.take_of_length_le (by rw [List.length_map]; have := HN.out; omega)]
      rw [htk] at HS
      clear htk hnb hnl
      obtain ⟨bk, o, rfl, hbk, hx⟩ := (show Row wr 9 1 A j cap (l.map digV) from (HS.out.get (i := 3) rfl).here).sl.2 (by omega)
      have hcap : j ≤ cap := (show Row wr 9 1 (some ⟨bk, o, none⟩) j cap (l.map digV) from (HS.out.get (i := 3) rfl).here).le.1
      obtain ⟨J, hJ⟩ : ∃ J : ByteArray, J = ⟨(Lib.join ((l.map fun n => (⟨(Lib.itoa n).toArray⟩ : ByteArray)).map (·.data.toList)) [32]).toArray⟩ := ⟨_, rfl⟩
      have hjl : (Lib.join ((l.map fun n => (⟨(Lib.itoa n).toArray⟩ : ByteArray)).map (·.data.toList)) [32]).length ≤ 70 := by
        have h1 := join_len ((l.map fun n => (⟨(Lib.itoa n).toArray⟩ : ByteArray)).map (·.data.toList)) 21 (fun x hx => by
          simp only [List.map_map, List.mem_map, Function.comp] at hx
          obtain ⟨n, hn, rfl⟩ := hx
          have := HFIT.out n hn
          exact Lib.itoa_length_le n (by omega) (by omega))
        simp only [List.length_map] at h1
        have := HN.out; omega
      have hJl : J.size ≤ 70 := by rw [hJ, Lib.size_eq]; exact hjl
      have HJ : Hid (Calls Tryz.prog 154 #[.slice (some ⟨bk, o, none⟩) j cap, .string ⟨#[32]⟩] wr fun e w' => e = .returned (.string J) ∧ Below wr.heap.size wr w') := by
        have h := Tryz.strings_Join bk o cap (l.map fun n => (⟨(Lib.itoa n).toArray⟩ : ByteArray)) ⟨#[32]⟩ wr (fun i x hi => hx i _ (by
          rw [List.getElem?_map] at hi ⊢
          cases hg : l[i]? with
          | none => rw [hg] at hi; simp at hi
          | some n => rw [hg] at hi; simp at hi; subst hi; rfl)) hbk (by rw [List.length_map]; have := HN.out; omega) (by rw [List.length_map, ← HN.out]; exact hcap) (by
          refine Nat.le_trans hjl (by decide))
        rw [List.length_map, ← HN.out] at h
        rw [hJ]; exact h
      clear hx hJ hjl
      go_wp2_with (first
        | (go_at_call 154; refine HJ.out.mono ?_; rintro e w7 ⟨rfl, hb7⟩; have HS7 := hid ((HS.out.new hb7).few (ts := [kTh kb p M k, logT lb v0 v1 v2 v3 kb bs, conT nb (.cells (ints l).toArray 3 (0, 0))])); clear hb7 HJ)
        | (go_at_call 108; refine (lstep_any (HS7.out.get (i := 1) rfl).here).mono ?_; rintro e w8 ⟨rfl, hk8, hx8⟩; have HS8 := hid (HS7.out.go 1 rfl (log_went hk8 hx8)); have c5 := blk_cell hx8 5; have c4 := blk_cell hx8 4; have f5 := blk_free hx8 5; have hl8 := blk_lt hx8; unfold logCells at c5 c4; simp at c5 c4; clear hk8 hx8))
      obtain ⟨B2, hB2⟩ : ∃ B2 : ByteArray, B2 = bs ++ (J ++ ⟨#[10]⟩) := ⟨_, rfl⟩
      obtain ⟨w9, hw9⟩ : ∃ w9, w9 = w8.setCell ⟨lb, 5, none⟩ (.string (bs ++ (J ++ ⟨#[10]⟩))) := ⟨_, rfl⟩
      have hx9 : w9.heap[lb]? = some (.cells (logCells v0 v1 v2 v3 kb B2) 187 (0, 0)) := by
        rw [hw9, hB2]
        exact blk_set (show w8.heap[lb]? = some (.cells (logCells v0 v1 v2 v3 kb bs) 187 (0, 0)) from (HS8.out.get (i := 1) rfl).here) 5 _
      have hk9 : Keep (fun j => j = lb) w8 w9 := by rw [hw9]; exact (Keep.refl (fun j => j = lb) w8).setCell (.inl rfl) _
      have HS9 : Hid (Stand w0 w9 [kTh kb p M k, logT lb v0 v1 v2 v3 kb B2, conT nb (.cells (ints l).toArray 3 (0, 0))]) := HS8.out.go 1 rfl (log_went hk9 hx9)
      have hsz : B2.size = bs.size + (J.size + 1) := by rw [hB2, ByteArray.size_append, ByteArray.size_append]; rfl
      rw [← hw9]
      clear hw9 hx9 hk9 hB2 c5 c4 f5 hl8
      refine (HACT.out w9 B2 HS9.out).mono ?_
      rintro e w10 ⟨rfl, M', hst⟩
      have HS10 := hid hst
      clear hst
      go_wp2_with fail
      go_ret
      exact ⟨rfl, B2, M', by omega, by omega, HS10.out⟩
/-! Go and Poke -/
/-- A kernel and a log that stand beside each other. -/
def LogAt (w0 w : World) (lb kb : Nat) (v0 v1 v2 v3 : Value) (p : Pl) (k : Kst) (bs : ByteArray) : Prop := ∃ M, Stand w0 w [kTh kb p M k, logT lb v0 v1 v2 v3 kb bs]
section
variable {w0 w : World} {lb kb : Nat} {v0 v1 v2 v3 : Value} {bs : ByteArray} {p : Pl} {k : Kst}
theorem LogAt.new {w' : World} (h : LogAt w0 w lb kb v0 v1 v2 v3 p k bs) (hb : Below w.heap.size w w') : LogAt w0 w' lb kb v0 v1 v2 v3 p k bs := by
  obtain ⟨M, h⟩ := h; exact ⟨M, h.new hb⟩
theorem lgo_bad (n : Int) (hn : n < 0 ∨ 100 < n) (h : LogAt w0 w lb kb v0 v1 v2 v3 p k bs) :
    Calls Tryz.prog 45 #[.pointer (some ⟨lb, 0, none⟩), .int .i64 n] w fun e w' => e = .returned (errV 1) ∧ w = w' := by
  obtain ⟨M, hst⟩ := h
  have hx : w.heap[lb]? = some (.cells (logCells v0 v1 v2 v3 kb bs) 187 (0, 0)) := (hst.get (i := 1) rfl).here
  unfold logCells at hx
  have c8 := blk_cell hx 8
  have hl := blk_lt hx
  simp at c8
  rw [errV_pos (by decide)]
  clear hx hst
  rcases (show n < 0 ∨ (100 < n ∧ 0 ≤ n) by omega) with h | ⟨h, h'⟩
  all_goals
    clear hn
    go_enter Tryz.func45, Tryz.ntmps45
    go_wp2_with fail
    go_ret
    exact ⟨rfl, rfl⟩
set_option maxHeartbeats 2000000 in
theorem lgo_ok (hp : PlOk p) (hpw : Pows w0) (hpl : 5 < w0.heap.size) (n : Nat) (hn : n ≤ 100) (hbs : bs.size ≤ 1000) (h : LogAt w0 w lb kb v0 v1 v2 v3 p (runK p 0) bs) :
    Calls Tryz.prog 45 #[.pointer (some ⟨lb, 0, none⟩), .int .i64 n] w fun e w' => e = .returned .nilIface ∧ ∃ bs' : ByteArray, bs.size < bs'.size ∧ bs'.size ≤ bs.size + 100 ∧ LogAt w0 w' lb kb v0 v1 v2 v3 p (runK p n) bs' := by
  obtain ⟨M, hst⟩ := h
  have hx : w.heap[lb]? = some (.cells (logCells v0 v1 v2 v3 kb bs) 187 (0, 0)) := (hst.get (i := 1) rfl).here
  unfold logCells at hx
  have c8 := blk_cell hx 8
  have c4 := blk_cell hx 4
  have hl := blk_lt hx
  simp at c8 c4
  have HT := hid (ktime_any (hst.get (i := 0) rfl).here.1)
  have ht : (runK p 0).time = 0 := rfl
  rw [ht] at HT
  have HKEEP : Hid (∀ w', Stand w0 w' [kTh kb p M (runK p 0), logT lb v0 v1 v2 v3 kb bs, conT w.heap.size (.cells (ints [(n : Int)]).toArray 3 (0, 0))] → Calls Tryz.prog 107 #[.pointer (some ⟨lb, 0, none⟩), .slice (some ⟨w.heap.size, 0, none⟩) 1 1] w' fun e w'' => e = .returned .nilIface ∧
      ∃ (bs' : ByteArray) (M' : KM), bs.size < bs'.size ∧ bs'.size ≤ bs.size + 100 ∧ Stand w0 w'' [kTh kb p M' (runK p n), logT lb v0 v1 v2 v3 kb bs', conT w.heap.size (.cells (ints [(n : Int)]).toArray 3 (0, 0))]) := fun w' h =>
    lkeep_any [(n : Int)] (Nat.le_refl 1) (by show 1 ≤ 3; omega) (fun x hx => by simp at hx; omega) hbs hpw hpl h (fun w2 bs2 h2 => lact_ticks hp n hn w.heap.size 0 1 ((blk_cell (show w2.heap[w.heap.size]? = some (.cells (ints [(n : Int)]).toArray 3 (0, 0)) from (h2.get (i := 2) rfl).here) 0).trans rfl) h2)
  have HST := hid hst
  clear hx hst hp hpw hpl
  go_enter Tryz.func45, Tryz.ntmps45
  go_wp2_with (go_at_call 24; refine HT.out.mono ?_; rintro e w1 ⟨rfl, rfl⟩)
  have h3 := HST.out.add (w1 := w.alloc (.cells #[.int .i64 n] 3)) ((Below.refl _ _).alloc (Nat.le_refl _) _) (con_lie (heap_alloc_new w (.cells #[.int .i64 n] 3))) (fun _ hj => hj.elim) (fun j hj => .inl (by have : j = w.heap.size := hj; omega))
  refine (HKEEP.out _ h3).mono ?_
  clear h3 HKEEP c8 c4
  rintro e w2 ⟨rfl, bs', M', hb1, hb2, hst⟩
  have HS2 := hid (hst.few (ts := [kTh kb p M' (runK p n), logT lb v0 v1 v2 v3 kb bs']))
  clear hst
  go_wp2_with fail
  go_ret
  exact ⟨rfl, bs', hb1, hb2, M', HS2.out⟩
theorem lpoke_bad (r cell v : Int) (R : Nat) (hR : k.rooms.length = R) (hr : 0 ≤ r ∧ r < R) (hc : cell < 0 ∨ 6 ≤ cell) (h : LogAt w0 w lb kb v0 v1 v2 v3 p k bs) :
    Calls Tryz.prog 54 #[.pointer (some ⟨lb, 0, none⟩), .int .i64 r, .int .i64 cell, .int .i64 v] w fun e w' => e = .returned (errV 1) ∧ LogAt w0 w' lb kb v0 v1 v2 v3 p k bs := by
  obtain ⟨M, hst⟩ := h
  have hx : w.heap[lb]? = some (.cells (logCells v0 v1 v2 v3 kb bs) 187 (0, 0)) := (hst.get (i := 1) rfl).here
  have c4 : w.cell? ⟨lb, 4, none⟩ = some (.pointer (some ⟨kb, 0, none⟩)) := blk_cell hx 4
  have hl := blk_lt hx
  have HC8 : Hid (∀ w', Below w.heap.size w w' → w'.cell? ⟨lb, 8, none⟩ = some (.bool false) ∧ lb < w'.heap.size) := fun w' hb => by
    have h := (hb.block _ (blk_lt hx)).trans hx
    exact ⟨blk_cell h 8, blk_lt h⟩
  have HR := hid (krooms_any (hst.get (i := 0) rfl).here.1)
  rw [hR] at HR
  have HST := hid hst
  rw [errV_pos (by decide)]
  obtain ⟨hr0, hr1⟩ := hr
  have d1 : decide (r < 0) = false := decide_eq_false (by omega)
  have d2 : decide ((R : Int) ≤ r) = false := decide_eq_false (by omega)
  obtain ⟨q, hq⟩ : ∃ q, q = k.lines.length := ⟨_, rfl⟩
  rw [← hq] at HR
  clear hx hst hR hq
  rcases (show cell < 0 ∨ (6 ≤ cell ∧ 0 ≤ cell) by omega) with h | ⟨h, h'⟩
  all_goals
    clear hc
    go_enter Tryz.func54, Tryz.ntmps54
    go_wp2_with (go_at_call 82; refine HR.out.mono ?_; rintro e w1 ⟨rfl, hb1⟩; obtain ⟨c8, hl1⟩ := HC8.out _ hb1; have HB1 := hid hb1; clear hb1 HR)
    go_ret
    exact ⟨rfl, M, HST.out.new HB1.out⟩
set_option maxHeartbeats 2000000 in
theorem lpoke_ok (hpw : Pows w0) (hpl : 5 < w0.heap.size) (r cell v : Int) (R : Nat) (hR : k.rooms.length = R) (hR5 : R ≤ 5) (hr : 0 ≤ r ∧ r < R) (hc : 0 ≤ cell ∧ cell < 6) (hv : 0 ≤ v ∧ v < 1000) (hbs : bs.size ≤ 1000) (h : LogAt w0 w lb kb v0 v1 v2 v3 p k bs) :
    Calls Tryz.prog 54 #[.pointer (some ⟨lb, 0, none⟩), .int .i64 r, .int .i64 cell, .int .i64 v] w fun e w' => e = .returned .nilIface ∧ ∃ bs' : ByteArray, bs.size < bs'.size ∧ bs'.size ≤ bs.size + 100 ∧ LogAt w0 w' lb kb v0 v1 v2 v3 p (pokeK k r cell v) bs' := by
  obtain ⟨M, hst⟩ := h
  have hx : w.heap[lb]? = some (.cells (logCells v0 v1 v2 v3 kb bs) 187 (0, 0)) := (hst.get (i := 1) rfl).here
  have c4 : w.cell? ⟨lb, 4, none⟩ = some (.pointer (some ⟨kb, 0, none⟩)) := blk_cell hx 4
  have hl := blk_lt hx
  have HC8 : Hid (∀ w', Below w.heap.size w w' → w'.cell? ⟨lb, 8, none⟩ = some (.bool false) ∧ lb < w'.heap.size) := fun w' hb => by
    have h := (hb.block _ (blk_lt hx)).trans hx
    exact ⟨blk_cell h 8, blk_lt h⟩
  have HR := hid (krooms_any (hst.get (i := 0) rfl).here.1)
  rw [hR] at HR
  have hpk : pokeOk k.rooms.length r cell v = true := by rw [hR]; exact decide_eq_true ⟨hr.1, hr.2, hc.1, hc.2, hv.1, hv.2⟩
  have HKEEP : Hid (∀ w' nb, Stand w0 w' [kTh kb p M k, logT lb v0 v1 v2 v3 kb bs, conT nb (.cells (ints [r, cell, v]).toArray 3 (0, 0))] → Calls Tryz.prog 107 #[.pointer (some ⟨lb, 0, none⟩), .slice (some ⟨nb, 0, none⟩) 3 3] w' fun e w'' => e = .returned .nilIface ∧
      ∃ (bs' : ByteArray) (M' : KM), bs.size < bs'.size ∧ bs'.size ≤ bs.size + 100 ∧ Stand w0 w'' [kTh kb p M' (pokeK k r cell v), logT lb v0 v1 v2 v3 kb bs', conT nb (.cells (ints [r, cell, v]).toArray 3 (0, 0))]) := fun w' nb h =>
    lkeep_any [r, cell, v] (by show 1 ≤ 3; omega) (Nat.le_refl 3) (fun x hx => by simp at hx; rcases hx with rfl | rfl | rfl <;> omega) hbs hpw hpl h (fun w2 bs2 h2 => by
      have hn : w2.heap[nb]? = some (.cells (ints [r, cell, v]).toArray 3 (0, 0)) := (h2.get (i := 2) rfl).here
      exact lact_poke r cell v (by rw [hR]; exact hR5) hpk nb 0 3 ((blk_cell hn 0).trans rfl) ((blk_cell hn 1).trans rfl) ((blk_cell hn 2).trans rfl) h2)
  have HST := hid hst
  obtain ⟨hr0, hr1⟩ := hr
  obtain ⟨hc0, hc1⟩ := hc
  obtain ⟨hv0, hv1⟩ := hv
  have d1 : decide (r < 0) = false := decide_eq_false (by omega)
  have d2 : decide ((R : Int) ≤ r) = false := decide_eq_false (by omega)
  have d3 : decide (cell < 0) = false := decide_eq_false (by omega)
  have d4 : decide (6 ≤ cell) = false := decide_eq_false (by omega)
  have d5 : decide (v < 0) = false := decide_eq_false (by omega)
  have d6 : decide (1000 ≤ v) = false := decide_eq_false (by omega)
  obtain ⟨q, hq⟩ : ∃ q, q = k.lines.length := ⟨_, rfl⟩
  rw [← hq] at HR
  clear hx hst hR hq hpk hpw hpl
  go_enter Tryz.func54, Tryz.ntmps54
  go_wp2_with (go_at_call 82; refine HR.out.mono ?_; rintro e w1 ⟨rfl, hb1⟩; obtain ⟨c8, hl1⟩ := HC8.out _ hb1; have HS1 := hid (HST.out.new hb1); clear hb1 HR)
  have h3 := HS1.out.add (w1 := w1.alloc (.cells #[.int .i64 r, .int .i64 cell, .int .i64 v] 3)) ((Below.refl _ _).alloc (Nat.le_refl _) _) (con_lie (heap_alloc_new w1 (.cells #[.int .i64 r, .int .i64 cell, .int .i64 v] 3))) (fun _ hj => hj.elim) (fun j hj => .inl (by have : j = w1.heap.size := hj; omega))
  refine (HKEEP.out _ w1.heap.size h3).mono ?_
  clear h3 HKEEP
  rintro e w2 ⟨rfl, bs', M', hb1, hb2, hst⟩
  have HS2 := hid (hst.few (ts := [kTh kb p M' (pokeK k r cell v), logT lb v0 v1 v2 v3 kb bs']))
  clear hst
  go_wp2_with fail
  go_ret
  exact ⟨rfl, bs', hb1, hb2, M', HS2.out⟩
end
end Go.Proofs.YtldllmhgofacbaaGreatDoor

/- Package log: the contract of keep, for every record and every log that has not stopped. Conditions: the library's table of powers, which the row lists. -/
namespace Go.Proofs.YtldllmhgofacbaaGreatDoor
open Go.RowKit
set_option maxRecDepth 100000

theorem bytes_app (a b : List UInt8) : (⟨a.toArray⟩ : ByteArray) ++ ⟨b.toArray⟩ = ⟨(a ++ b).toArray⟩ := by
  apply ByteArray.ext
  rw [ByteArray.data_append]
  simp
theorem bytes_of {a : ByteArray} {l : List UInt8} (h : a.data.toList = l) : a = ⟨l.toArray⟩ := by
  apply ByteArray.ext
  rw [← h]
theorem Lg.put_kept {L : Lg} {x : Lrec} (h : L.left ≠ 0) : L.put x = (0, ⟨L.done ++ [x], [], L.safe, L.left', false⟩) := by unfold Lg.put; rw [if_neg h]
theorem Lg.put_stop {L : Lg} {x : Lrec} (h : L.left = 0) : L.put x = (6, ⟨L.done, (recText x).take ((recText x).length / 2), L.safe, -1, true⟩) := by unfold Lg.put; rw [if_pos h]
/-- What keep leaves. -/
def LKept (w0 : World) (lb kb nb : Nat) (m : PM) (L : Lg) (x : Lrec) (ts : List Tg) (e : Ending) (w' : World) : Prop :=
  e = .returned (errV (L.put x).1) ∧ ∃ M', Stand w0 w' (kTh kb m.pl M' (runRecs m.pl (L.put x).2.done) :: lgT lb m kb (L.put x).2 :: planT m :: conT nb (.cells (ints (x.nums.map Int.ofNat)).toArray 3 (0, 0)) :: ts)

set_option maxHeartbeats 8000000 in
theorem lgkeep_any {w0 w : World} {lb kb nb : Nat} {m : PM} {M : KM} {L : Lg} {ts : List Tg} (hpl : PlOk m.pl) (hL : LgOk m.pl L) (hst : L.stopped = false) (hfew : L.done.length ≤ 1000) {x : Lrec} (hx : x.ok m.pl.code.length)
    (hp : Pows w0) (hpow : 5 < w0.heap.size)
    (h : Stand w0 w (kTh kb m.pl M (runRecs m.pl L.done) :: lgT lb m kb L :: planT m :: conT nb (.cells (ints (x.nums.map Int.ofNat)).toArray 3 (0, 0)) :: ts)) :
    Calls Tryz.prog 107 #[.pointer (some ⟨lb, 0, none⟩), .slice (some ⟨nb, 0, none⟩) x.nums.length x.nums.length] w (LKept w0 lb kb nb m L x ts) := by
  obtain ⟨i0, hi0, hz0, hz1, hz2⟩ := info_parts Tryz.infoStr
  obtain ⟨l, hl⟩ : ∃ l, l = x.nums.map Int.ofNat := ⟨_, rfl⟩
  obtain ⟨k, hk⟩ : ∃ k, k = runRecs m.pl L.done := ⟨_, rfl⟩
  have hKOK : KOk m.pl k (100 * (L.done.length : Int)) := by rw [hk]; exact runRecs_ok hpl hL.recs
  have HFIN : Hid (∀ e w', (∀ (_ : e = .returned (errV (L.put x).1)) M', Stand w0 w' (kTh kb m.pl M' (runRecs m.pl (L.put x).2.done) :: lgT lb m kb (L.put x).2 :: planT m :: conT nb (.cells (ints l).toArray 3 (0, 0)) :: ts) → LKept w0 lb kb nb m L x ts e w')) := hid fun e w' he M' hs => ⟨he, M', by rw [← hl]; exact hs⟩
  have hfit : ∀ n ∈ l, 0 ≤ n ∧ n ≤ 1000 := fun n hn => by
    rw [hl] at hn
    obtain ⟨u, hu, rfl⟩ := List.mem_map.1 hn
    have h5 := hpl.most5
    cases x with
    | go n =>
      simp only [Lrec.nums, List.mem_singleton] at hu
      have h' : n ≤ 100 := hx
      subst hu
      simp; omega
    | poke r c v =>
      obtain ⟨h1, h2, h3⟩ := hx
      simp only [Lrec.nums, List.mem_cons, List.mem_nil_iff, or_false] at hu
      rcases hu with rfl | rfl | rfl <;> simp <;> omega
  have hlen : x.nums.length = l.length := by rw [hl, List.length_map]
  have hl1 : 1 ≤ l.length := by rw [← hlen]; cases x <;> simp [Lrec.nums]
  have hl3 : l.length ≤ 3 := by rw [← hlen]; cases x <;> simp [Lrec.nums]
  have hln : recLine x = Lib.join (l.map Lib.itoa) [32] := by unfold recLine; rw [hl, List.map_map]; rfl
  have hact : ∀ w' (L' : Lg), Stand w0 w' (kTh kb m.pl M k :: lgT lb m kb L' :: planT m :: conT nb (.cells (ints l).toArray 3 (0, 0)) :: ts) →
      Calls Tryz.prog 155 #[.pointer (some ⟨kb, 0, none⟩), .slice (some ⟨nb, 0, none⟩) l.length l.length] w' fun e w'' => e = .returned .nilIface ∧ ∃ M', Stand w0 w'' (kTh kb m.pl M' (doRec m.pl k x) :: lgT lb m kb L' :: planT m :: conT nb (.cells (ints l).toArray 3 (0, 0)) :: ts) := fun w' L' hs => by
    have hcon : w'.heap[nb]? = some (.cells (ints l).toArray 3 (0, 0)) := (hs.get (i := 3) rfl).here
    have := lact_rec hpl hKOK (by omega) hx nb 0 l.length (fun j u hu => by
      rw [Nat.zero_add, blk_cell hcon]
      rw [← hl] at hu
      simpa using hu) hs
    rw [hlen] at this
    exact this
  rw [← hl, ← hk] at h
  rw [hlen]
  have HST := hid h
  have HACT := hid hact
  have HFIT := hid hfit
  have HLN := hid hln
  have HK := hid hk
  have HL := hid hL
  have hleft := hL.left
  have hleftB := hL.leftB
  have hsz0 := Lg.text_le hpl.most5 hL
  have hwh := hL.whole hst
  have HWH := hid hwh
  have HPW : Hid (∀ w', Below w0.heap.size w0 w' → Pows w') := hid fun w' hb => hp.new hpow hb
  obtain ⟨n, hn⟩ : ∃ n, n = l.length := ⟨_, rfl⟩
  rw [← hn] at hl1 hl3 HACT ⊢
  have HN := hid hn
  obtain ⟨TX, hTX⟩ : ∃ TX : ByteArray, TX = ⟨L.text.toArray⟩ := ⟨_, rfl⟩
  have hTXs : TX.size ≤ 12012 := by rw [hTX, Lib.size_eq]; simp; omega
  have HTX := hid hTX
  clear h hact hfit hln hp hpow hn hpl hL hx hKOK hl hlen hk hwh hTX hst hsz0 hfew
  go_enter Tryz.func107, Tryz.ntmps107
  go_wp2_with fail
  go_loopw [5, 11] (fun v5 v11 wr => ∃ (j : Nat) (A : Option Addr) (cap : Nat), j ≤ n ∧ v5 = .slice A j cap ∧ v11 = .int .i64 j ∧
    Stand w0 wr (kTh kb m.pl M k :: lgT lb m kb L :: planT m :: conT nb (.cells (ints l).toArray 3 (0, 0)) :: rowT 9 1 A j cap ((l.map digV).take j) :: ts)) (fun _ v11 _ => n - (intOf v11).toNat)
  case atStart => exact ⟨0, none, 0, by omega, rfl, rfl, (stand_nil HST.out _ _).ins (us := [_, _, _, _])⟩
  case round =>
    obtain ⟨j, A, cap, hj, rfl, rfl, hst⟩ := hrel
    have HS := hid hst
    have hnb : wr.heap[nb]? = some (.cells (ints l).toArray 3 (0, 0)) := (hst.get (i := 3) rfl).here
    have hnl := blk_lt hnb
    clear hst
    by_cases hjn : j < n
    · have hjl : j < l.length := by rw [← HN.out]; exact hjn
      have hget := List.getElem?_eq_getElem hjl
      have hk : wr.cell? ⟨nb, j, none⟩ = some (.int .i64 l[j]) := by
        rw [blk_cell hnb]; unfold ints; rw [List.getElem?_toArray, List.getElem?_map, hget]; rfl
      have hfx := HFIT.out l[j] (List.getElem_mem hjl)
      have hnext : (l.map digV).take (j + 1) = (l.map digV).take j ++ [digV l[j]] := by rw [List.take_succ_eq_append_getElem (by rw [List.length_map]; exact hjl), List.getElem_map]
      generalize l[j] = y at hget hk hfx hnext
      obtain ⟨S2, hS2⟩ : ∃ S2 : ByteArray, S2 = ⟨(Lib.itoa y).toArray⟩ := ⟨_, rfl⟩
      have HIT : Hid (Calls Tryz.prog 99 #[.int .i64 y] wr fun e w'' => e = .returned (.string S2) ∧ Below wr.heap.size wr w'') := by
        rw [hS2]; exact itoaS_any y (by omega) (by omega) wr (HPW.out _ HS.out.below)
      have HNX : Hid ((l.map digV).take (j + 1) = (l.map digV).take j ++ [.string S2]) := by rw [hnext, hS2]; rfl
      clear hget hfx hnext hS2 hnb
      go_wp2_with (first
        | (go_at_call 99; refine HIT.out.mono ?_; rintro e w5 ⟨rfl, hb5⟩; have HS5 := hid (HS.out.new hb5); clear hb5 HIT)
        | (at_builtin; refine wpList_append_row _ rfl _ _ 78 rfl 9 i0 (.string ⟨#[]⟩) 1 16 Tryz.underlying78 hi0 hz0 hz1 hz2 rfl (by decide) A j cap ((l.map digV).take j) rfl ?c0 (some ⟨w5.heap.size, 0, none⟩) 1 1 [.string S2] rfl ?c1 ?c2 ?c3 ?c4 ?_))
      case c0 => exact Row.alloc (HS5.out.get (i := 4) rfl).here _
      case c1 => exact one_sl w5 _ _
      case c2 => intro u hu; simp at hu; subst hu; rfl
      case c3 => unfold maxLen; omega
      case c4 => omega
      intro A' cap' w6 hrow6 hkeep6 hin6
      rw [← HNX.out] at hrow6
      have hst6 := (HS5.out.new ((Below.refl _ w5).alloc (Nat.le_refl _) (.cells #[.string S2] 9))).go 4 rfl (row_went hrow6 hkeep6 (fun i hi => by rw [sz_alloc]; exact hin6 i hi))
      have HS6 : Hid (Stand w0 w6 (kTh kb m.pl M k :: lgT lb m kb L :: planT m :: conT nb (.cells (ints l).toArray 3 (0, 0)) :: rowT 9 1 A' (j + 1) cap' ((l.map digV).take (j + 1)) :: ts)) := hst6
      clear hrow6 hkeep6 hin6 hst6
      go_wp2_with fail
      go_roundw
      case rel => exact ⟨j + 1, A', cap', by omega, by go_num, by go_num, HS6.out⟩
      case measure => simp [intOf]; omega
    · obtain rfl : j = n := by omega
      have htk : (l.map digV).take j = l.map digV := by rw [List.take_of_length_le (by rw [List.length_map]; have := HN.out; omega)]
      rw [htk] at HS
      clear htk hnb hnl
      obtain ⟨bk, o, rfl, hbk, hx⟩ := (show Row wr 9 1 A j cap (l.map digV) from (HS.out.get (i := 4) rfl).here).sl.2 (by omega)
      have hcap : j ≤ cap := (show Row wr 9 1 (some ⟨bk, o, none⟩) j cap (l.map digV) from (HS.out.get (i := 4) rfl).here).le.1
      have hmm : (l.map fun n => (⟨(Lib.itoa n).toArray⟩ : ByteArray)).map (fun s => s.data.toList) = l.map Lib.itoa := by rw [List.map_map]; rfl
      obtain ⟨J, hJ⟩ : ∃ J : ByteArray, J = ⟨(recLine x).toArray⟩ := ⟨_, rfl⟩
      have hjl : (recLine x).length ≤ 70 := by
        rw [HLN.out]
        have h1 := join_len (l.map Lib.itoa) 21 (fun x hx => by
          obtain ⟨n, hn, rfl⟩ := List.mem_map.1 hx
          have := HFIT.out n hn
          exact Lib.itoa_length_le n (by omega) (by omega))
        simp only [List.length_map] at h1
        have := HN.out; omega
      have hJl : J.size ≤ 70 := by rw [hJ, Lib.size_eq]; exact hjl
      have HJ : Hid (Calls Tryz.prog 154 #[.slice (some ⟨bk, o, none⟩) j cap, .string ⟨#[32]⟩] wr fun e w' => e = .returned (.string J) ∧ Below wr.heap.size wr w') := by
        have h := Tryz.strings_Join bk o cap (l.map fun n => (⟨(Lib.itoa n).toArray⟩ : ByteArray)) ⟨#[32]⟩ wr (fun i x hi => hx i _ (by
          rw [List.getElem?_map] at hi ⊢
          cases hg : l[i]? with
          | none => rw [hg] at hi; simp at hi
          | some n => rw [hg] at hi; simp at hi; subst hi; rfl)) hbk (by rw [List.length_map]; have := HN.out; omega) (by rw [List.length_map, ← HN.out]; exact hcap) (by
          rw [hmm]
          show (Lib.join (l.map Lib.itoa) [32]).length ≤ _
          rw [← HLN.out]
          omega)
        rw [List.length_map, ← HN.out, hmm] at h
        have e : (Lib.join (l.map Lib.itoa) (⟨#[32]⟩ : ByteArray).data.toList) = recLine x := HLN.out.symm
        rw [e] at h
        rw [hJ]; exact hid h
      have HJE := hid hJ
      clear hx hJ hjl hmm
      by_cases hz : L.left = 0
      · have e0 : decide (L.left = 0) = true := decide_eq_true hz
        have e1 : (if L.left ≤ 0 then (-1 : Int) else L.left - 1) = -1 := if_pos (by omega)
        have HSTEP : Hid (∀ w', Stand w0 w' (kTh kb m.pl M k :: lgT lb m kb L :: planT m :: conT nb (.cells (ints l).toArray 3 (0, 0)) :: ts) → Calls Tryz.prog 108 #[.pointer (some ⟨lb, 0, none⟩)] w' fun e w'' => e = .returned (.bool true) ∧ Keep (fun j => j = lb) w' w'' ∧
            w''.heap[lb]? = some (.cells #[.slice m.A m.ros.length m.c, .int .i64 m.ticks, .slice m.sA m.spans.length m.sc, .slice m.wA m.wires.length m.wc, .pointer (some ⟨kb, 0, none⟩), .string TX, .int .i64 L.safe, .int .i64 (-1), .bool true] 187 (0, 0))) := hid fun w' hs => by
          have := lgstep_any hleft hleftB (hs.get (i := 1) rfl).here
          rw [e0, e1] at this
          unfold txt at this
          rw [← HTX.out] at this
          exact this
        clear e0 e1
        go_wp2_with (first
          | (go_at_call 154; refine HJ.out.mono ?_; rintro e w7 ⟨rfl, hb7⟩; have HS7 := hid ((HS.out.new hb7).del (us := [kTh kb m.pl M k, lgT lb m kb L, planT m, conT nb (.cells (ints l).toArray 3 (0, 0))])); clear hb7 HJ)
          | (go_at_call 108; refine (HSTEP.out _ HS7.out).mono ?_; rintro e w8 ⟨rfl, hk8, hx8⟩; have HK8 := hid hk8; have HX8 := hid hx8; have c5 := blk_cell hx8 5; have c4 := blk_cell hx8 4; have f5 := blk_free hx8 5; have hl8 := blk_lt hx8; simp at c5 c4; clear hk8 hx8 HSTEP))
        obtain ⟨S, hS⟩ : ∃ S : ByteArray, S = J ++ ⟨#[10]⟩ := ⟨_, rfl⟩
        rw [← hS]
        have HSE := hid hS
        have q0 : (0 : Int) ≤ (S.size : Int) := by omega
        have q1 : (0 : Int) ≤ (S.size : Int) / 2 := by omega
        have q2 : (S.size : Int) / 2 ≤ (S.size : Int) := by omega
        have q3 : S.size ≤ 71 := by rw [hS, ByteArray.size_append]; have : (⟨#[10]⟩ : ByteArray).size = 1 := rfl; omega
        have q4 : IntKind.i64.wrap ((S.size : Int) / 2) = (S.size : Int) / 2 := IntWalk.i64_in _ (by omega)
        clear hS
        go_region
        obtain ⟨L2, hL2⟩ : ∃ L2 : Lg, L2 = ⟨L.done, (recText x).take ((recText x).length / 2), L.safe, -1, true⟩ := ⟨_, rfl⟩
        have hSx : S = ⟨(recText x).toArray⟩ := by
          rw [HSE.out, HJE.out]
          exact bytes_app (recLine x) [10]
        have htx : txt L2.text = .string (TX ++ S.extract 0 (S.size / 2)) := by
          have e2 : L2.text = L.text ++ (recText x).take ((recText x).length / 2) := by
            rw [hL2]; unfold Lg.text
            rw [HWH.out]; simp
          have e3 : S.size = (recText x).length := by rw [hSx, Lib.size_eq]
          rw [e2, HTX.out, e3, Lib.extract_eq, hSx]
          show txt _ = .string (⟨L.text.toArray⟩ ++ _)
          rw [bytes_app]
          simp [txt]
        obtain ⟨w9, hw9⟩ : ∃ w9, w9 = w8.setCell ⟨lb, 5, none⟩ (.string (TX ++ S.extract 0 (S.size / 2))) := ⟨_, rfl⟩
        have hx9 : w9.heap[lb]? = some (.cells (lgCells m kb L2) 187 (0, 0)) := by
          rw [hw9]
          refine (blk_set HX8.out 5 _).trans ?_
          unfold lgCells
          rw [htx, hL2]; rfl
        have hk9 : Keep (fun j => j = lb) w7 w9 := by rw [hw9]; exact HK8.out.setCell (.inl rfl) _
        have HS9 : Hid (Stand w0 w9.drew (kTh kb m.pl M k :: lgT lb m kb L2 :: planT m :: conT nb (.cells (ints l).toArray 3 (0, 0)) :: ts)) := (HS7.out.go 1 rfl (lg_went hk9 hx9)).new (Below.refl _ _).drew
        rw [← hw9]
        clear hw9 hx9 hk9 htx c5 c4 f5 hl8 hSx
        go_wp2_with fail
        go_ret
        refine HFIN.out _ _ (by rw [Lg.put_stop hz]; show _ = Ending.returned (errV 6); rw [errV_pos (by decide)]; rfl) M ?_
        rw [Lg.put_stop hz]
        simp only []
        rw [← HK.out, ← hL2]
        exact HS9.out
      · have e0 : decide (L.left = 0) = false := decide_eq_false hz
        have e1 : (if L.left ≤ 0 then (-1 : Int) else L.left - 1) = L.left' := rfl
        have HSTEP : Hid (∀ w', Stand w0 w' (kTh kb m.pl M k :: lgT lb m kb L :: planT m :: conT nb (.cells (ints l).toArray 3 (0, 0)) :: ts) → Calls Tryz.prog 108 #[.pointer (some ⟨lb, 0, none⟩)] w' fun e w'' => e = .returned (.bool false) ∧ Keep (fun j => j = lb) w' w'' ∧
            w''.heap[lb]? = some (.cells #[.slice m.A m.ros.length m.c, .int .i64 m.ticks, .slice m.sA m.spans.length m.sc, .slice m.wA m.wires.length m.wc, .pointer (some ⟨kb, 0, none⟩), .string TX, .int .i64 L.safe, .int .i64 L.left', .bool false] 187 (0, 0))) := hid fun w' hs => by
          have := lgstep_any hleft hleftB (hs.get (i := 1) rfl).here
          rw [e0, e1] at this
          unfold txt at this
          rw [← HTX.out] at this
          exact this
        clear e0 e1
        go_wp2_with (first
          | (go_at_call 154; refine HJ.out.mono ?_; rintro e w7 ⟨rfl, hb7⟩; have HS7 := hid ((HS.out.new hb7).del (us := [kTh kb m.pl M k, lgT lb m kb L, planT m, conT nb (.cells (ints l).toArray 3 (0, 0))])); clear hb7 HJ)
          | (go_at_call 108; refine (HSTEP.out _ HS7.out).mono ?_; rintro e w8 ⟨rfl, hk8, hx8⟩; have HK8 := hid hk8; have HX8 := hid hx8; have c5 := blk_cell hx8 5; have c4 := blk_cell hx8 4; have f5 := blk_free hx8 5; have hl8 := blk_lt hx8; simp at c5 c4; clear hk8 hx8 HSTEP))
        obtain ⟨L2, hL2⟩ : ∃ L2 : Lg, L2 = ⟨L.done ++ [x], [], L.safe, L.left', false⟩ := ⟨_, rfl⟩
        have htx : txt L2.text = .string (TX ++ (J ++ ⟨#[10]⟩)) := by
          have e2 : L2.text = L.text ++ (recLine x ++ [10]) := by
            rw [hL2]; unfold Lg.text
            rw [recs_snoc, HWH.out]
            simp [recText]
          rw [e2, HTX.out, HJE.out]
          show txt _ = .string (⟨L.text.toArray⟩ ++ (⟨(recLine x).toArray⟩ ++ ⟨[10].toArray⟩))
          rw [bytes_app, bytes_app]; rfl
        obtain ⟨w9, hw9⟩ : ∃ w9, w9 = w8.setCell ⟨lb, 5, none⟩ (.string (TX ++ (J ++ ⟨#[10]⟩))) := ⟨_, rfl⟩
        have hx9 : w9.heap[lb]? = some (.cells (lgCells m kb L2) 187 (0, 0)) := by
          rw [hw9]
          refine (blk_set HX8.out 5 _).trans ?_
          unfold lgCells
          rw [htx, hL2]; rfl
        have hk9 : Keep (fun j => j = lb) w7 w9 := by rw [hw9]; exact HK8.out.setCell (.inl rfl) _
        have HS9 : Hid (Stand w0 w9 (kTh kb m.pl M k :: lgT lb m kb L2 :: planT m :: conT nb (.cells (ints l).toArray 3 (0, 0)) :: ts)) := HS7.out.go 1 rfl (lg_went hk9 hx9)
        rw [← hw9]
        clear hw9 hx9 hk9 htx c5 c4 f5 hl8
        refine (HACT.out w9 L2 HS9.out).mono ?_
        rintro e w10 ⟨rfl, M', hst⟩
        have HS10 := hid hst
        clear hst
        go_wp2_with fail
        go_ret
        refine HFIN.out _ _ (by rw [Lg.put_kept hz, errV_zero]; rfl) M' ?_
        rw [Lg.put_kept hz]
        simp only []
        rw [runRecs_snoc, ← HK.out, ← hL2]
        exact HS10.out
end Go.Proofs.YtldllmhgofacbaaGreatDoor

/- Package log: the contracts of Go, Poke and Sync, for every log. Conditions: the library's table of powers, which the row lists. -/
namespace Go.Proofs.YtldllmhgofacbaaGreatDoor
open Go.RowKit
set_option maxRecDepth 100000

section
variable {w0 w : World} {lb : Nat} {m : PM} {L : Lg} {ts : List Tg}
theorem lg_cells {kb : Nat} {M : KM} {k : Kst} (h : Stand w0 w (kTh kb m.pl M k :: lgT lb m kb L :: planT m :: ts)) : w.cell? ⟨lb, 4, none⟩ = some (.pointer (some ⟨kb, 0, none⟩)) ∧ w.cell? ⟨lb, 5, none⟩ = some (txt L.text) ∧ w.cell? ⟨lb, 6, none⟩ = some (.int .i64 L.safe) ∧
    w.cell? ⟨lb, 7, none⟩ = some (.int .i64 L.left) ∧ w.cell? ⟨lb, 8, none⟩ = some (.bool L.stopped) ∧ lb < w.heap.size ∧ ∀ o, w.frozen? ⟨lb, o, none⟩ = false := by
  have hx : w.heap[lb]? = some (.cells (lgCells m kb L) 187 (0, 0)) := (h.get (i := 1) rfl).here
  unfold lgCells at hx
  exact ⟨(blk_cell hx 4).trans rfl, (blk_cell hx 5).trans rfl, (blk_cell hx 6).trans rfl, (blk_cell hx 7).trans rfl, (blk_cell hx 8).trans rfl, blk_lt hx, fun o => blk_free hx o⟩
set_option maxHeartbeats 2000000 in
theorem lggo_any (hp : PlOk m.pl) (hL : LgOk m.pl L) (hfew : L.done.length ≤ 1000) (hpw : Pows w0) (hpl : 5 < w0.heap.size) (n : Int) (h : LgAt w0 w lb m L ts) :
    Calls Tryz.prog 45 #[.pointer (some ⟨lb, 0, none⟩), .int .i64 n] w fun e w' => e = .returned (errV (L.goE m.pl n).1) ∧ LgAt w0 w' lb m (L.goE m.pl n).2 ts := by
  obtain ⟨kb, M, hst⟩ := h
  obtain ⟨c4, _, _, _, c8, hl, _⟩ := lg_cells hst
  have HST := hid hst
  by_cases h1 : L.stopped = true
  · have e : L.goE m.pl n = (6, L) := by unfold Lg.goE; rw [if_pos h1]
    rw [h1] at c8
    rw [e]
    dsimp only
    rw [errV_pos (by decide)]
    clear hst hL hp hpw hpl e
    go_enter Tryz.func45, Tryz.ntmps45
    go_wp2_with fail
    go_ret
    exact ⟨rfl, kb, M, HST.out⟩
  have h1' : L.stopped = false := by simpa using h1
  rw [h1'] at c8
  by_cases h2 : n < 0 ∨ 100 < n
  · have e : L.goE m.pl n = (1, L) := by unfold Lg.goE; rw [if_neg h1, if_pos h2]
    rw [e]
    dsimp only
    rw [errV_pos (by decide)]
    clear hst hL hp hpw hpl e
    rcases (show n < 0 ∨ (100 < n ∧ 0 ≤ n) by omega) with h | ⟨h, h'⟩
    all_goals
      clear h2
      go_enter Tryz.func45, Tryz.ntmps45
      go_wp2_with fail
      go_ret
      exact ⟨rfl, kb, M, HST.out⟩
  obtain ⟨N, rfl⟩ : ∃ N : Nat, n = N := ⟨n.toNat, by omega⟩
  have hN : N ≤ 100 := by omega
  have hk := runRecs_ok hp hL.recs
  have ht0 := hk.time0
  have htB := hk.timeB
  have HT := hid (ktime_any (hst.get (i := 0) rfl).here.1)
  by_cases h3 : 2000 < (runRecs m.pl L.done).time + N
  · have e : L.goE m.pl N = (4, L) := by unfold Lg.goE; rw [if_neg h1, if_neg h2, if_pos h3]
    rw [e]
    dsimp only
    rw [errV_pos (by decide)]
    generalize (runRecs m.pl L.done).time = tm at HT h3 ht0 htB
    clear hst hL hp hpw hpl e hk h1 h2
    go_enter Tryz.func45, Tryz.ntmps45
    go_wp2_with (go_at_call 24; refine HT.out.mono ?_; rintro e w1 ⟨rfl, rfl⟩)
    go_ret
    exact ⟨rfl, kb, M, HST.out⟩
  have hrec : (Lrec.go N).ok m.pl.code.length := hN
  have e : L.goE m.pl N = L.put (.go N) := by unfold Lg.goE; rw [if_neg h1, if_neg h2, if_neg h3, Int.toNat_natCast]
  rw [e]
  have HKEEP : Hid (∀ w', Stand w0 w' (kTh kb m.pl M (runRecs m.pl L.done) :: lgT lb m kb L :: planT m :: conT w.heap.size (.cells (ints [(N : Int)]).toArray 3 (0, 0)) :: ts) →
      Calls Tryz.prog 107 #[.pointer (some ⟨lb, 0, none⟩), .slice (some ⟨w.heap.size, 0, none⟩) 1 1] w' (LKept w0 lb kb w.heap.size m L (.go N) ts)) := hid fun w' hs => lgkeep_any hp hL h1' hfew hrec hpw hpl hs
  unfold LKept at HKEEP
  generalize L.put (.go N) = q at HKEEP ⊢
  obtain ⟨qe, qL⟩ := q
  simp only [] at HKEEP ⊢
  have htm : Hid (∃ tm, tm = (runRecs m.pl L.done).time) := ⟨_, rfl⟩
  obtain ⟨tm, htm⟩ := htm.out
  rw [← htm] at HT h3 ht0 htB
  have h3' : tm + N ≤ 2000 := by omega
  clear hst hL hp hpw hpl e hk h1 h2 h3 htm hrec
  go_enter Tryz.func45, Tryz.ntmps45
  go_wp2_with (go_at_call 24; refine HT.out.mono ?_; rintro e w1 ⟨rfl, rfl⟩)
  have h4 := (HST.out.add (w1 := w.alloc (.cells #[.int .i64 N] 3)) ((Below.refl _ _).alloc (Nat.le_refl _) _) (con_lie (heap_alloc_new w (.cells #[.int .i64 N] 3))) (fun _ hj => hj.elim) (fun j hj => .inl (by have : j = w.heap.size := hj; omega))).ins (us := [_, _, _])
  refine (HKEEP.out _ h4).mono ?_
  clear h4 HKEEP c8 c4
  rintro e w2 ⟨rfl, M', hst⟩
  have HS2 := hid (hst.del (us := [kTh kb m.pl M' (runRecs m.pl qL.done), lgT lb m kb qL, planT m]))
  clear hst
  go_wp2_with fail
  go_ret
  exact ⟨rfl, kb, M', HS2.out⟩
theorem lgsync_any (hL : LgOk m.pl L) (h : LgAt w0 w lb m L ts) :
    Calls Tryz.prog 46 #[.pointer (some ⟨lb, 0, none⟩)] w fun e w' => e = .returned (errV L.syncE.1) ∧ LgAt w0 w' lb m L.syncE.2 ts := by
  obtain ⟨kb, M, hst⟩ := h
  obtain ⟨c4, _, _, _, c8, hl, _⟩ := lg_cells hst
  have HST := hid hst
  by_cases h1 : L.stopped = true
  · have e : L.syncE = (6, L) := by unfold Lg.syncE; rw [if_pos h1]
    rw [h1] at c8
    rw [e]
    dsimp only
    rw [errV_pos (by decide)]
    clear hst hL e
    go_enter Tryz.func46, Tryz.ntmps46
    go_wp2_with fail
    go_ret
    exact ⟨rfl, kb, M, HST.out⟩
  have h1' : L.stopped = false := by simpa using h1
  rw [h1'] at c8
  have hstep := lgstep_any hL.left hL.leftB (show w.heap[lb]? = some (.cells (lgCells m kb L) 187 (0, 0)) from (hst.get (i := 1) rfl).here)
  by_cases h2 : L.left = 0
  · have e : L.syncE = (6, ⟨L.done, L.part, L.safe, -1, true⟩) := by unfold Lg.syncE; rw [if_neg h1, if_pos h2]
    rw [e]
    dsimp only
    rw [errV_pos (by decide)]
    rw [decide_eq_true h2, if_pos (show L.left ≤ 0 by omega)] at hstep
    have HSTEP := hid hstep
    clear hst hL e hstep h1 h2
    go_enter Tryz.func46, Tryz.ntmps46
    go_wp2_with (go_at_call 108; refine HSTEP.out.mono ?_; rintro e w1 ⟨rfl, hk, hx⟩; have HK := hid hk; have HX := hid hx; clear hk hx HSTEP)
    go_ret
    exact ⟨rfl, kb, M, HST.out.go 1 rfl (lg_went (L' := ⟨L.done, L.part, L.safe, -1, true⟩) HK.out HX.out)⟩
  · have e : L.syncE = (0, ⟨L.done, L.part, L.text.length, L.left', false⟩) := by unfold Lg.syncE; rw [if_neg h1, if_neg h2]
    rw [e]
    dsimp only
    rw [errV_zero]
    rw [decide_eq_false h2] at hstep
    have HSTEP := hid hstep
    obtain ⟨S, hS⟩ : ∃ S : ByteArray, S = ⟨L.text.toArray⟩ := ⟨_, rfl⟩
    have hz : S.size = L.text.length := by rw [hS, Lib.size_eq]
    unfold txt at HSTEP
    rw [← hS] at HSTEP
    have HZ := hid hz
    have HSE := hid hS
    clear hst hL e hstep h1 h2 hz hS
    go_enter Tryz.func46, Tryz.ntmps46
    go_wp2_with (go_at_call 108; refine HSTEP.out.mono ?_; rintro e w1 ⟨rfl, hk, hx⟩; have HK := hid hk; have HX := hid hx; have c5 := blk_cell hx 5; have c6 := blk_cell hx 6; have f6 := blk_free hx 6; have hl1 := blk_lt hx; simp at c5 c6; clear hk hx HSTEP)
    go_ret
    refine ⟨rfl, kb, M, HST.out.go 1 rfl (lg_went (L' := ⟨L.done, L.part, L.text.length, L.left', false⟩) (HK.out.setCell (.inl rfl) _) ?_)⟩
    refine (blk_set HX.out 6 _).trans ?_
    have hz2 : (⟨L.text.toArray⟩ : ByteArray).size = L.text.length := by rw [Lib.size_eq]
    rw [HSE.out, hz2]
    rfl
end
end Go.Proofs.YtldllmhgofacbaaGreatDoor

/- Package log: the contract of Poke, for every log. Conditions: the library's table of powers, which the row lists. -/
namespace Go.Proofs.YtldllmhgofacbaaGreatDoor
open Go.RowKit
set_option maxRecDepth 100000

section
variable {w0 w : World} {lb : Nat} {m : PM} {L : Lg} {ts : List Tg}
set_option maxHeartbeats 4000000 in
theorem lgpoke_any (hp : PlOk m.pl) (hL : LgOk m.pl L) (hfew : L.done.length ≤ 1000) (hpw : Pows w0) (hpl : 5 < w0.heap.size) (r cell v : Int) (h : LgAt w0 w lb m L ts) :
    Calls Tryz.prog 54 #[.pointer (some ⟨lb, 0, none⟩), .int .i64 r, .int .i64 cell, .int .i64 v] w fun e w' => e = .returned (errV (L.pokeE m.pl r cell v).1) ∧ LgAt w0 w' lb m (L.pokeE m.pl r cell v).2 ts := by
  obtain ⟨kb, M, hst⟩ := h
  obtain ⟨c4, _, _, _, _, hl, _⟩ := lg_cells hst
  have hk := runRecs_ok hp hL.recs
  have HR := hid (krooms_any (hst.get (i := 0) rfl).here.1)
  rw [hk.rooms] at HR
  have hR1 := hp.some1
  have hR5 := hp.most5
  have HC8 : Hid (∀ w', Below w.heap.size w w' → w'.cell? ⟨lb, 8, none⟩ = some (.bool L.stopped) ∧ lb < w'.heap.size) := fun w' hb => by
    obtain ⟨_, _, _, _, c8, hl, _⟩ := lg_cells (hst.new hb)
    exact ⟨c8, hl⟩
  have HST := hid hst
  have HPO := hid hp
  have HLO := hid hL
  obtain ⟨q, hq⟩ : ∃ q, q = (runRecs m.pl L.done).lines.length := ⟨_, rfl⟩
  obtain ⟨R, hRR⟩ : ∃ R, R = m.pl.code.length := ⟨_, rfl⟩
  rw [← hq, ← hRR] at HR
  rw [← hRR] at hR1 hR5
  have HRR := hid hRR
  clear hst hq hk hRR
  by_cases h1 : L.stopped = true
  · have e : L.pokeE m.pl r cell v = (6, L) := by unfold Lg.pokeE; rw [if_pos h1]
    rw [h1] at HC8
    rw [e]
    dsimp only
    rw [errV_pos (by decide)]
    clear hL hp hpw hpl e
    go_enter Tryz.func54, Tryz.ntmps54
    go_wp2_with (go_at_call 82; refine HR.out.mono ?_; rintro e w1 ⟨rfl, hb1⟩; obtain ⟨c8, hl1⟩ := HC8.out _ hb1; have HB1 := hid hb1; clear hb1 HR)
    go_ret
    exact ⟨rfl, kb, M, HST.out.new HB1.out⟩
  have h1' : L.stopped = false := by simpa using h1
  rw [h1'] at HC8
  by_cases h2 : pokeOk m.pl.code.length r cell v = false
  · have e : L.pokeE m.pl r cell v = (1, L) := by unfold Lg.pokeE; rw [if_neg h1, if_pos h2]
    rw [e]
    dsimp only
    rw [errV_pos (by decide)]
    rw [← HRR.out] at h2
    have hbad : ¬ (0 ≤ r ∧ r < R ∧ 0 ≤ cell ∧ cell < 6 ∧ 0 ≤ v ∧ v < 1000) := by simpa [pokeOk] using h2
    clear hL hp hpw hpl e h2
    have hcs : r < 0 ∨ (0 ≤ r ∧ (R : Int) ≤ r) ∨ ((0 ≤ r ∧ r < R) ∧ cell < 0) ∨ ((0 ≤ r ∧ r < R) ∧ 0 ≤ cell ∧ 6 ≤ cell) ∨ ((0 ≤ r ∧ r < R) ∧ (0 ≤ cell ∧ cell < 6) ∧ v < 0) ∨ ((0 ≤ r ∧ r < R) ∧ (0 ≤ cell ∧ cell < 6) ∧ 0 ≤ v ∧ 1000 ≤ v) := by omega
    clear hbad
    rcases hcs with g | ⟨g0, g⟩ | ⟨⟨g0, g1⟩, g⟩ | ⟨⟨g0, g1⟩, g2, g⟩ | ⟨⟨g0, g1⟩, ⟨g2, g3⟩, g⟩ | ⟨⟨g0, g1⟩, ⟨g2, g3⟩, g4, g⟩
    all_goals
      try have d1 : decide (r < 0) = false := decide_eq_false (by omega)
      try have d2 : decide ((R : Int) ≤ r) = false := decide_eq_false (by omega)
      try have d3 : decide (cell < 0) = false := decide_eq_false (by omega)
      try have d4 : decide (6 ≤ cell) = false := decide_eq_false (by omega)
      try have d5 : decide (v < 0) = false := decide_eq_false (by omega)
      go_enter Tryz.func54, Tryz.ntmps54
      go_wp2_with (go_at_call 82; refine HR.out.mono ?_; rintro e w1 ⟨rfl, hb1⟩; obtain ⟨c8, hl1⟩ := HC8.out _ hb1; have HB1 := hid hb1; clear hb1 HR)
      go_ret
      exact ⟨rfl, kb, M, HST.out.new HB1.out⟩
  · have h2' : pokeOk m.pl.code.length r cell v = true := by simpa using h2
    have e : L.pokeE m.pl r cell v = L.put (.poke r.toNat cell.toNat v.toNat) := by unfold Lg.pokeE; rw [if_neg h1, if_neg h2]
    rw [e]
    rw [← HRR.out] at h2'
    have hok : 0 ≤ r ∧ r < R ∧ 0 ≤ cell ∧ cell < 6 ∧ 0 ≤ v ∧ v < 1000 := by simpa [pokeOk] using h2'
    clear e h2 h2'
    obtain ⟨rn, rfl⟩ : ∃ k : Nat, r = k := ⟨r.toNat, by omega⟩
    obtain ⟨cn, rfl⟩ : ∃ k : Nat, cell = k := ⟨cell.toNat, by omega⟩
    obtain ⟨vn, rfl⟩ : ∃ k : Nat, v = k := ⟨v.toNat, by omega⟩
    simp only [Int.toNat_natCast]
    have hrec : (Lrec.poke rn cn vn).ok m.pl.code.length := ⟨by rw [← HRR.out]; omega, by omega, by omega⟩
    have HKEEP : Hid (∀ w' nb, Stand w0 w' (kTh kb m.pl M (runRecs m.pl L.done) :: lgT lb m kb L :: planT m :: conT nb (.cells (ints [(rn : Int), (cn : Int), (vn : Int)]).toArray 3 (0, 0)) :: ts) →
        Calls Tryz.prog 107 #[.pointer (some ⟨lb, 0, none⟩), .slice (some ⟨nb, 0, none⟩) 3 3] w' (LKept w0 lb kb nb m L (.poke rn cn vn) ts)) := hid fun w' nb hs => lgkeep_any hp hL h1' hfew hrec hpw hpl hs
    unfold LKept at HKEEP
    generalize L.put (.poke rn cn vn) = q at HKEEP ⊢
    obtain ⟨qe, qL⟩ := q
    simp only [] at HKEEP ⊢
    obtain ⟨hr0, hr1, hc0, hc1, hv0, hv1⟩ := hok
    have d1 : decide ((rn : Int) < 0) = false := decide_eq_false (by omega)
    have d2 : decide ((R : Int) ≤ rn) = false := decide_eq_false (by omega)
    have d3 : decide ((cn : Int) < 0) = false := decide_eq_false (by omega)
    have d4 : decide (6 ≤ (cn : Int)) = false := decide_eq_false (by omega)
    have d5 : decide ((vn : Int) < 0) = false := decide_eq_false (by omega)
    have d6 : decide (1000 ≤ (vn : Int)) = false := decide_eq_false (by omega)
    clear hL hp hpw hpl h1 hrec
    go_enter Tryz.func54, Tryz.ntmps54
    go_wp2_with (go_at_call 82; refine HR.out.mono ?_; rintro e w1 ⟨rfl, hb1⟩; obtain ⟨c8, hl1⟩ := HC8.out _ hb1; have HS1 := hid (HST.out.new hb1); clear hb1 HR)
    have h3 := (HS1.out.add (w1 := w1.alloc (.cells #[.int .i64 rn, .int .i64 cn, .int .i64 vn] 3)) ((Below.refl _ _).alloc (Nat.le_refl _) _) (con_lie (heap_alloc_new w1 (.cells #[.int .i64 rn, .int .i64 cn, .int .i64 vn] 3))) (fun _ hj => hj.elim) (fun j hj => .inl (by have : j = w1.heap.size := hj; omega))).ins (us := [_, _, _])
    refine (HKEEP.out _ w1.heap.size h3).mono ?_
    clear h3 HKEEP
    rintro e w2 ⟨rfl, M', hst⟩
    have HS2 := hid (hst.del (us := [kTh kb m.pl M' (runRecs m.pl qL.done), lgT lb m kb qL, planT m]))
    clear hst
    go_wp2_with fail
    go_ret
    exact ⟨rfl, kb, M', HS2.out⟩
end
end Go.Proofs.YtldllmhgofacbaaGreatDoor
