/- Package log: a log as it lies, whatever it holds; and the contracts of step, Sync, Fail, Time, Bytes, Safe and State. Conditions: none. -/
import Derived.Test.YthafahnlfpkkbaaGreatDoorLogLaw
import Derived.Test.YthafahnlfpkkbaaGreatDoorLogAct
namespace Go.Proofs.YthafahnlfpkkbaaGreatDoor
open Go.RowKit
set_option maxRecDepth 100000

/-- A log's cells: its plan, its kernel, its bytes, how many are safe, how many steps are left, whether it has stopped. -/
def lgCells (m : PM) (kb : Nat) (L : Lg) : Array Value := #[.slice m.A m.ros.length m.c, .int .i64 m.ticks, .slice m.sA m.spans.length m.sc, .slice m.wA m.wires.length m.wc, .pointer (some ⟨kb, 0, none⟩), txt L.text, .int .i64 L.safe, .int .i64 L.left, .bool L.stopped]
def lgT (lb : Nat) (m : PM) (kb : Nat) (L : Lg) : Tg := blkT lb (.cells (lgCells m kb L) 174 (0, 0))
/-- A log that stands. -/
def LgAt (w0 w : World) (lb : Nat) (m : PM) (L : Lg) : Prop := ∃ (kb : Nat) (M : KM), Stand w0 w [kTh kb m.pl M (runRecs m.pl L.done), lgT lb m kb L, planT m]
theorem lg_went {w w' : World} {lb kb kb' : Nat} {m : PM} {L L' : Lg} (hk : Keep (fun j => j = lb) w w') (hx : w'.heap[lb]? = some (.cells (lgCells m kb' L') 174 (0, 0))) :
    Went w w' (lgT lb m kb L) (lgT lb m kb' L') := ⟨blk_lie hx, hk, fun _ h => .inl h, fun _ h => .inl h⟩
section
variable {w0 w : World} {lb : Nat} {m : PM} {L : Lg}
theorem LgAt.new {w' : World} (h : LgAt w0 w lb m L) (hb : Below w.heap.size w w') : LgAt w0 w' lb m L := by
  obtain ⟨kb, M, h⟩ := h; exact ⟨kb, M, h.new hb⟩
theorem LgAt.below (h : LgAt w0 w lb m L) : Below w0.heap.size w0 w := by obtain ⟨kb, M, h⟩ := h; exact h.below
theorem LgAt.base {wb : World} (h : LgAt w0 w lb m L) (hb : Below wb.heap.size wb w0) : LgAt wb w lb m L := by
  obtain ⟨kb, M, h⟩ := h; exact ⟨kb, M, h.base hb⟩
end

set_option maxHeartbeats 1000000 in
theorem lgstep_any {w : World} {lb : Nat} {v0 v1 v2 v3 v4 v5 v6 : Value} {left : Int} {st : Bool} (h0 : -1 ≤ left) (h1 : left ≤ 9223372036854775807) (h : w.heap[lb]? = some (.cells #[v0, v1, v2, v3, v4, v5, v6, .int .i64 left, .bool st] 174 (0, 0))) :
    Calls Tryz.prog 97 #[.pointer (some ⟨lb, 0, none⟩)] w fun e w' => e = .returned (.bool (decide (left = 0))) ∧ Keep (fun j => j = lb) w w' ∧
      w'.heap[lb]? = some (.cells #[v0, v1, v2, v3, v4, v5, v6, .int .i64 (if left ≤ 0 then -1 else left - 1), .bool (decide (left = 0))] 174 (0, 0)) := by
  have c7 := blk_cell h 7
  have c8 := blk_cell h 8
  have f7 := blk_free h 7
  have f8 := blk_free h 8
  have hl := blk_lt h
  simp at c7 c8
  have H := hid h
  clear h
  rcases (show left = -1 ∨ left = 0 ∨ 1 ≤ left by omega) with rfl | rfl | h2
  · go_enter Tryz.func97, Tryz.ntmps97
    go_wp2_with fail
    go_ret
    refine ⟨rfl, ((Keep.refl (fun j => j = lb) w).setCell (.inl rfl) _).setCell (.inl rfl) _, ?_⟩
    exact blk_set (blk_set H.out 8 (.bool false)) 7 (.int .i64 (-min 1 2))
  · go_enter Tryz.func97, Tryz.ntmps97
    go_wp2_with fail
    go_ret
    refine ⟨rfl, ((Keep.refl (fun j => j = lb) w).setCell (.inl rfl) _).setCell (.inl rfl) _, ?_⟩
    exact blk_set (blk_set H.out 8 (.bool true)) 7 _
  · have e0 : decide (left = 0) = false := decide_eq_false (by omega)
    have e1 : (if left ≤ 0 then (-1 : Int) else left - 1) = left - 1 := if_neg (by omega)
    have e2 : (left == 0) = false := by rw [beq_eq_false_iff_ne]; omega
    rw [e0, e1]
    have HE := hid e1
    clear e1
    go_enter Tryz.func97, Tryz.ntmps97
    go_wp2_with fail
    go_ret
    refine ⟨rfl, ((Keep.refl (fun j => j = lb) w).setCell (.inl rfl) _).setCell (.inl rfl) _, ?_⟩
    have e3 : max (-1) (left - 1) = left - 1 := by omega
    rw [e3]
    exact blk_set (blk_set H.out 8 (.bool false)) 7 _

section
variable {w0 w : World} {lb : Nat} {m : PM} {L : Lg}
theorem lgtime_any (h : LgAt w0 w lb m L) :
    Calls Tryz.prog 40 #[.pointer (some ⟨lb, 0, none⟩)] w fun e w' => e = .returned (.int .i64 (runRecs m.pl L.done).time) ∧ w = w' := by
  obtain ⟨kb, M, h⟩ := h
  have hx : w.heap[lb]? = some (.cells (lgCells m kb L) 174 (0, 0)) := (h.get (i := 1) rfl).here
  unfold lgCells at hx
  have c4 := blk_cell hx 4
  have hl := blk_lt hx
  simp at c4
  have HT := hid (ktime_any (h.get (i := 0) rfl).here.1)
  clear h hx
  go_enter Tryz.func40, Tryz.ntmps40
  go_wp2_with (go_at_call 31; refine HT.out.mono ?_; rintro e w1 ⟨rfl, rfl⟩)
  go_ret
  exact ⟨rfl, rfl⟩
theorem lgbytes_any (h : LgAt w0 w lb m L) :
    Calls Tryz.prog 41 #[.pointer (some ⟨lb, 0, none⟩)] w fun e w' => e = .returned (.int .i64 L.text.length) ∧ w = w' := by
  obtain ⟨kb, M, h⟩ := h
  have hx : w.heap[lb]? = some (.cells (lgCells m kb L) 174 (0, 0)) := (h.get (i := 1) rfl).here
  unfold lgCells txt at hx
  have c5 := blk_cell hx 5
  have hl := blk_lt hx
  simp at c5
  have hz : (⟨L.text.toArray⟩ : ByteArray).size = L.text.length := by rw [Lib.size_eq]
  obtain ⟨S, hS⟩ : ∃ S : ByteArray, S = ⟨L.text.toArray⟩ := ⟨_, rfl⟩
  rw [← hS] at c5 hz
  obtain ⟨n, hn⟩ : ∃ n, n = L.text.length := ⟨_, rfl⟩
  rw [← hn] at hz ⊢
  subst hz
  clear h hx hS hn
  go_enter Tryz.func41, Tryz.ntmps41
  go_wp2_with fail
  go_ret
  exact ⟨rfl, rfl⟩
theorem lgsafe_any (h : LgAt w0 w lb m L) :
    Calls Tryz.prog 42 #[.pointer (some ⟨lb, 0, none⟩)] w fun e w' => e = .returned (.int .i64 L.safe) ∧ w = w' := by
  obtain ⟨kb, M, h⟩ := h
  have hx : w.heap[lb]? = some (.cells (lgCells m kb L) 174 (0, 0)) := (h.get (i := 1) rfl).here
  unfold lgCells at hx
  have c6 := blk_cell hx 6
  have hl := blk_lt hx
  simp at c6
  obtain ⟨n, hn⟩ : ∃ n, n = L.safe := ⟨_, rfl⟩
  rw [← hn] at c6 ⊢
  clear h hx hn
  go_enter Tryz.func42, Tryz.ntmps42
  go_wp2_with fail
  go_ret
  exact ⟨rfl, rfl⟩
theorem lgstate_any (hp : PlOk m.pl) (hL : LgOk m.pl L) {r : Nat} {s : St} (hr : (runRecs m.pl L.done).rooms[r]? = some s) (h : LgAt w0 w lb m L) :
    Calls Tryz.prog 48 #[.pointer (some ⟨lb, 0, none⟩), .int .i64 r] w fun e w' => e = .returned (.tuple #[.agg (stV s), .nilIface]) ∧ Below w.heap.size w w' := by
  obtain ⟨kb, M, h⟩ := h
  have hx : w.heap[lb]? = some (.cells (lgCells m kb L) 174 (0, 0)) := (h.get (i := 1) rfl).here
  unfold lgCells at hx
  have hk := runRecs_ok hp hL.recs
  obtain ⟨wa, hwa⟩ : ∃ wa, wa = w.alloc (.cells #[.int .i64 0, .int .i64 0, .int .i64 0, .int .i64 0, .int .i64 0, .int .i64 0, .int .i64 0, .bool false] 95) := ⟨_, rfl⟩
  have hba : Below w.heap.size w wa := by rw [hwa]; exact (Below.refl _ _).alloc (Nat.le_refl _) _
  have hblk : wa.heap[w.heap.size]? = some (.cells #[.int .i64 0, .int .i64 0, .int .i64 0, .int .i64 0, .int .i64 0, .int .i64 0, .int .i64 0, .bool false] 95 (0, 0)) := by rw [hwa]; exact heap_alloc_new _ _
  have c4 := blk_cell hx 4
  have hl := blk_lt hx
  simp at c4
  have HST : Hid (Calls Tryz.prog 49 #[.pointer (some ⟨kb, 0, none⟩), .int .i64 r] wa fun e w' => e = .returned (.tuple #[.agg (stV s), .nilIface]) ∧ Below wa.heap.size wa w') := by
    have h1 := kstate_any (r : Int) (by rw [hk.rooms]; exact hp.most5) ((h.new hba).get (i := 0) rfl).here.1
    have hlt := (List.getElem?_eq_some_iff.1 hr).1
    have h2 : stateOf (runRecs m.pl L.done) (r : Int) = (s, 0) := by
      unfold stateOf inB
      rw [if_pos (decide_eq_true (by omega)), Int.toNat_natCast, List.getD_eq_getElem?_getD, hr]; rfl
    rw [h2] at h1
    refine h1.mono fun e w' h3 => ?_
    unfold StateV at h3
    rw [errV_zero] at h3
    exact h3
  have HBA := hid hba
  have HBLK := hid hblk
  obtain ⟨pc, c0, c1, c2, c3, c4', c5, f⟩ := s
  unfold stV at HST ⊢
  simp only [] at HST ⊢
  clear h hx hk hba hblk hr hp hL
  go_enter Tryz.func48, Tryz.ntmps48
  go_wp2_with fail
  rw [← hwa]
  refine HST.out.mono ?_
  rintro e1 w2 ⟨rfl, hb2⟩
  have hx2 := (hb2.block _ (blk_lt HBLK.out)).trans HBLK.out
  have HB2 := hid (HBA.out.trans (hb2.mono HBA.out.size))
  have r0 := blk_cell hx2 0
  have r1 := blk_cell hx2 1
  have r2 := blk_cell hx2 2
  have r3 := blk_cell hx2 3
  have r4 := blk_cell hx2 4
  have r5 := blk_cell hx2 5
  have r6 := blk_cell hx2 6
  have r7 := blk_cell hx2 7
  have rf := fun j => blk_free hx2 j
  have hlr := blk_lt hx2
  simp at r0 r1 r2 r3 r4 r5 r6 r7
  clear hx2 hb2 c4 hl hwa
  go_wp2_with fail
  refine bodyPost_ret (v := .tuple #[.agg #[.int .i64 pc, .int .i64 c0, .int .i64 c1, .int .i64 c2, .int .i64 c3, .int .i64 c4', .int .i64 c5, .bool f], .nilIface]) (by simp [results, Tryz.results48, go_sem, r0, r1, r2, r3, r4, r5, r6, r7]) rfl ?_
  exact ⟨rfl, ((((((((HB2.out.setCell (Nat.le_refl _) _).setCell (Nat.le_refl _) _).setCell (Nat.le_refl _) _).setCell (Nat.le_refl _) _).setCell (Nat.le_refl _) _).setCell (Nat.le_refl _) _).setCell (Nat.le_refl _) _).setCell (Nat.le_refl _) _)⟩
theorem lgfail_any (n : Int) (hn : n ≤ 9223372036854775807) (hn0 : -9223372036854775808 ≤ n) (h : LgAt w0 w lb m L) :
    Calls Tryz.prog 43 #[.pointer (some ⟨lb, 0, none⟩), .int .i64 n] w fun e w' => e = .returned (.tuple #[]) ∧ LgAt w0 w' lb m (L.fail n) := by
  obtain ⟨kb, M, h⟩ := h
  have hx : w.heap[lb]? = some (.cells (lgCells m kb L) 174 (0, 0)) := (h.get (i := 1) rfl).here
  have HX := hid hx
  unfold lgCells at hx
  have c7 := blk_cell hx 7
  have f7 := blk_free hx 7
  have hl := blk_lt hx
  simp at c7
  have HS := hid h
  clear h hx
  have FIN : Hid (LgAt w0 (w.setCell ⟨lb, 7, none⟩ (.int .i64 (max (-1) n))) lb m (L.fail n)) := hid (by
    have hv : max (-1) n = (if n < 0 then -1 else n) := by split <;> omega
    rw [hv]
    refine ⟨kb, M, HS.out.go 1 rfl (lg_went ((Keep.refl (fun j => j = lb) w).setCell (.inl rfl) _) ?_)⟩
    exact blk_set HX.out 7 _)
  clear HX HS
  go_enter Tryz.func43, Tryz.ntmps43
  go_wp2_with fail
  go_end0
  exact ⟨rfl, FIN.out⟩
end
end Go.Proofs.YthafahnlfpkkbaaGreatDoor
