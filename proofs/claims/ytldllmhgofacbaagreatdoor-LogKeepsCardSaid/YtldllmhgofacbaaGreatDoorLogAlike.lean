/- The walk of framelaw3.alike: is a log as a kernel? -/
import Derived.Test.YtldllmhgofacbaaGreatDoorRKernU
import Derived.Test.YtldllmhgofacbaaGreatDoorLogGU
import Derived.Test.YtldllmhgofacbaaGreatDoorSameU
import Derived.BigQuiet
import Derived.IntWalk
import Derived.StillTailTactics
namespace Go.Proofs.YtldllmhgofacbaaGreatDoor
open Go.RowKit
set_option maxRecDepth 100000

set_option maxHeartbeats 4000000 in
theorem alike_any {wl wk w : World} {lb kb : Nat} {m : PM} {L : Lg} {N : KM} (hp : PlOk m.pl) (hL : LgOk m.pl L) (h : LgAt wl w lb m L) (hr : RRun wk w kb m.pl N (runRecs m.pl L.done)) (n : Nat) (hn : m.pl.code.length = n) :
    Calls Tryz.prog 55 #[.pointer (some ⟨lb, 0, none⟩), .pointer (some ⟨kb, 0, none⟩), .int .i64 n] w fun e w' => e = .returned (.bool true) ∧ Below w.heap.size w w' := by
  have hk := runRecs_ok hp hL.recs
  have HKR : Hid ((runRecs m.pl L.done).rooms.length = n) := hid (by rw [hk.rooms, hn])
  have hn5 : n ≤ 5 := by rw [← hn]; exact hp.most5
  have HST : Hid (∀ (r : Nat) (s : St) w', LgAt wl w' lb m L → (runRecs m.pl L.done).rooms[r]? = some s → Calls Tryz.prog 57 #[.pointer (some ⟨lb, 0, none⟩), .int .i64 r] w' fun e w'' => e = .returned (.tuple #[.agg (stV s), .nilIface]) ∧ Below w'.heap.size w' w'') := hid fun r s w' h1 h2 => lgstate_any hp hL h2 h1
  have HTM : Hid (∀ w', LgAt wl w' lb m L → Calls Tryz.prog 48 #[.pointer (some ⟨lb, 0, none⟩)] w' fun e w'' => e = .returned (.int .i64 (runRecs m.pl L.done).time) ∧ w' = w'') := hid fun w' h => lgtime_any h
  have HH := hid h
  have HR := hid hr
  clear h hr hk hn hp hL
  go_enter Tryz.func55, Tryz.ntmps55
  go_wp2_with fail
  go_loopw [7] (fun v7 wr => ∃ i : Nat, i ≤ n ∧ v7 = .int .i64 i ∧ Below w.heap.size w wr) (fun v7 _ => n - (intOf v7).toNat)
  case atStart => exact ⟨0, by omega, rfl, Below.refl _ _⟩
  case round =>
    obtain ⟨wo, rfl⟩ : ∃ wo : World, wo = wr := ⟨_, rfl⟩
    obtain ⟨i, hin, rfl, hb⟩ := hrel
    have HB := hid hb
    have HHO := hid (HH.out.new hb)
    have HRO := hid (HR.out.new hb)
    clear hb
    by_cases hi : i < n
    · obtain ⟨s, hs⟩ : ∃ s, (runRecs m.pl L.done).rooms[i]? = some s := ⟨_, List.getElem?_eq_getElem (by rw [HKR.out]; exact hi)⟩
      have HS := hid hs
      have hst := HST.out i s wo HHO.out hs
      have HNQ : Hid (∀ w, (binOp .neq 106 (.agg #[.int .i64 s.pc, .int .i64 s.c0, .int .i64 s.c1, .int .i64 s.c2, .int .i64 s.c3, .int .i64 s.c4, .int .i64 s.c5, .bool s.failed]) (.agg #[.int .i64 s.pc, .int .i64 s.c0, .int .i64 s.c1, .int .i64 s.c2, .int .i64 s.c3, .int .i64 s.c4, .int .i64 s.c5, .bool s.failed])).run Tryz.prog w = .ok (.bool false) w) := hid fun w => by
        have := state_neq s s w
        rw [stEq_refl] at this; exact this
      have HSTC := hid hst
      unfold stV at HSTC
      clear hs hst
      go_wp2_with fail
      refine HSTC.out.mono ?_
      rintro e w2 ⟨rfl, hb2⟩
      have HR2 := hid (HRO.out.new hb2)
      have HB2 := hid (HB.out.trans (hb2.mono HB.out.size))
      clear hb2 HSTC
      go_upto_region 4 with fail
      have es := heap_alloc_new w2 (.cells #[.int .i64 s.pc, .int .i64 s.c0, .int .i64 s.c1, .int .i64 s.c2, .int .i64 s.c3, .int .i64 s.c4, .int .i64 s.c5, .bool s.failed] 106)
      obtain ⟨w3, hw3⟩ : ∃ w3, w3 = w2.alloc (.cells #[.int .i64 s.pc, .int .i64 s.c0, .int .i64 s.c1, .int .i64 s.c2, .int .i64 s.c3, .int .i64 s.c4, .int .i64 s.c5, .bool s.failed] 106) := ⟨_, rfl⟩
      have hb3 : Below w2.heap.size w2 w3 := by rw [hw3]; exact (Below.refl _ _).alloc (Nat.le_refl _) _
      rw [← hw3] at es
      rw [← hw3]
      have HR3 := hid (HR2.out.new hb3)
      have HB3 := hid (HB2.out.trans (hb3.mono HB2.out.size))
      obtain ⟨rb, roff, hrA, ⟨q0, q1, q2, q3, q4, q5, q6, q7⟩, hrf, hrb, hrkb, hrl, hrc, hrm⟩ := HR3.out.kat.room HS.out
      obtain ⟨_, _, _, k4, _, _, kf, hkb⟩ := HR3.out.kat.cells
      rw [hrA, HKR.out] at k4
      have u0 := blk_cell es 0
      have u1 := blk_cell es 1
      have u2 := blk_cell es 2
      have u3 := blk_cell es 3
      have u4 := blk_cell es 4
      have u5 := blk_cell es 5
      have u6 := blk_cell es 6
      have u7 := blk_cell es 7
      have hlu := blk_lt es
      simp at u0 u1 u2 u3 u4 u5 u6 u7
      have hsg := state_guard
      have hneq := HNQ.out
      obtain ⟨pc, c0, c1, c2, c3, c4, c5, sf⟩ := s
      simp only [] at *
      clear hb3 hw3 es HS
      go_quiet (fail)
      go_wp2_with fail
      go_roundw
      case rel => exact ⟨i + 1, by omega, by go_num, below_drawn HB3.out _⟩
      case measure => simp [intOf]; omega
    · obtain rfl : i = n := by omega
      obtain ⟨_, _, _, k4, _, k6, kf, hkb⟩ := HRO.out.kat.cells
      obtain ⟨t, ht⟩ : ∃ t, t = (runRecs m.pl L.done).time := ⟨_, rfl⟩
      have HTMC : Hid (∀ d, Calls Tryz.prog 48 #[.pointer (some ⟨lb, 0, none⟩)] (wo.drewN d) fun e w'' => e = .returned (.int .i64 (runRecs m.pl L.done).time) ∧ w'' = wo.drewN d) := hid fun d => (HTM.out _ (HHO.out.new (below_drawn (Below.refl _ _) d))).mono fun _ _ ⟨h1, h2⟩ => ⟨h1, h2.symm⟩
      rw [← ht] at HTMC k6
      clear ht k4
      go_wp2_with fail
      go_quiet ((go_at_call 48; exact Calls.quiet_of_same (HTMC.out _)))
      go_wp2_with fail
      go_ret
      exact ⟨rfl, below_drawn HB.out _⟩
end Go.Proofs.YtldllmhgofacbaaGreatDoor
