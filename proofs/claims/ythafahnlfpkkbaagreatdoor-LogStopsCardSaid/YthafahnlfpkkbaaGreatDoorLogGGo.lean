/- Package log: the contracts of Go, Poke and Sync, for every log. Conditions: the library's table of powers, which the row lists. -/
import Derived.Test.YthafahnlfpkkbaaGreatDoorLogGKeep
namespace Go.Proofs.YthafahnlfpkkbaaGreatDoor
open Go.RowKit
set_option maxRecDepth 100000

section
variable {w0 w : World} {lb : Nat} {m : PM} {L : Lg}
theorem lg_cells {kb : Nat} {M : KM} {k : Kst} (h : Stand w0 w [kTh kb m.pl M k, lgT lb m kb L, planT m]) : w.cell? ⟨lb, 4, none⟩ = some (.pointer (some ⟨kb, 0, none⟩)) ∧ w.cell? ⟨lb, 5, none⟩ = some (txt L.text) ∧ w.cell? ⟨lb, 6, none⟩ = some (.int .i64 L.safe) ∧
    w.cell? ⟨lb, 7, none⟩ = some (.int .i64 L.left) ∧ w.cell? ⟨lb, 8, none⟩ = some (.bool L.stopped) ∧ lb < w.heap.size ∧ ∀ o, w.frozen? ⟨lb, o, none⟩ = false := by
  have hx : w.heap[lb]? = some (.cells (lgCells m kb L) 174 (0, 0)) := (h.get (i := 1) rfl).here
  unfold lgCells at hx
  exact ⟨(blk_cell hx 4).trans rfl, (blk_cell hx 5).trans rfl, (blk_cell hx 6).trans rfl, (blk_cell hx 7).trans rfl, (blk_cell hx 8).trans rfl, blk_lt hx, fun o => blk_free hx o⟩
set_option maxHeartbeats 2000000 in
theorem lggo_any (hp : PlOk m.pl) (hL : LgOk m.pl L) (hfew : L.done.length ≤ 1000) (hpw : Pows w0) (hpl : 3 < w0.heap.size) (n : Int) (h : LgAt w0 w lb m L) :
    Calls Tryz.prog 37 #[.pointer (some ⟨lb, 0, none⟩), .int .i64 n] w fun e w' => e = .returned (errV (L.goE m.pl n).1) ∧ LgAt w0 w' lb m (L.goE m.pl n).2 := by
  obtain ⟨kb, M, hst⟩ := h
  obtain ⟨c4, _, _, _, c8, hl, _⟩ := lg_cells hst
  have HST := hid hst
  by_cases h1 : L.stopped = true
  · have e : L.goE m.pl n = (6, L) := by unfold Lg.goE; rw [if_pos h1]
    rw [h1] at c8
    rw [e]
    dsimp only
    rw [errV_pos (by decide)]
    clear hst hL hp hpw hpl e
    go_enter Tryz.func37, Tryz.ntmps37
    go_wp2_with fail
    go_ret
    exact ⟨rfl, kb, M, HST.out⟩
  have h1' : L.stopped = false := by simpa using h1
  rw [h1'] at c8
  by_cases h2 : n < 0 ∨ 100 < n
  · have e : L.goE m.pl n = (1, L) := by unfold Lg.goE; rw [if_neg h1, if_pos h2]
    rw [e]
    dsimp only
    rw [errV_pos (by decide)]
    clear hst hL hp hpw hpl e
    rcases (show n < 0 ∨ (100 < n ∧ 0 ≤ n) by omega) with h | ⟨h, h'⟩
    all_goals
      clear h2
      go_enter Tryz.func37, Tryz.ntmps37
      go_wp2_with fail
      go_ret
      exact ⟨rfl, kb, M, HST.out⟩
  obtain ⟨N, rfl⟩ : ∃ N : Nat, n = N := ⟨n.toNat, by omega⟩
  have hN : N ≤ 100 := by omega
  have hk := runRecs_ok hp hL.recs
  have ht0 := hk.time0
  have htB := hk.timeB
  have HT := hid (ktime_any (hst.get (i := 0) rfl).here.1)
  by_cases h3 : 2000 < (runRecs m.pl L.done).time + N
  · have e : L.goE m.pl N = (4, L) := by unfold Lg.goE; rw [if_neg h1, if_neg h2, if_pos h3]
    rw [e]
    dsimp only
    rw [errV_pos (by decide)]
    generalize (runRecs m.pl L.done).time = tm at HT h3 ht0 htB
    clear hst hL hp hpw hpl e hk h1 h2
    go_enter Tryz.func37, Tryz.ntmps37
    go_wp2_with (go_at_call 31; refine HT.out.mono ?_; rintro e w1 ⟨rfl, rfl⟩)
    go_ret
    exact ⟨rfl, kb, M, HST.out⟩
  have hrec : (Lrec.go N).ok m.pl.code.length := hN
  have e : L.goE m.pl N = L.put (.go N) := by unfold Lg.goE; rw [if_neg h1, if_neg h2, if_neg h3, Int.toNat_natCast]
  rw [e]
  have HKEEP : Hid (∀ w', Stand w0 w' [kTh kb m.pl M (runRecs m.pl L.done), lgT lb m kb L, planT m, conT w.heap.size (.cells (ints [(N : Int)]).toArray 3 (0, 0))] →
      Calls Tryz.prog 96 #[.pointer (some ⟨lb, 0, none⟩), .slice (some ⟨w.heap.size, 0, none⟩) 1 1] w' (LKept w0 lb kb w.heap.size m L (.go N))) := hid fun w' hs => lgkeep_any hp hL h1' hfew hrec hpw hpl hs
  unfold LKept at HKEEP
  generalize L.put (.go N) = q at HKEEP ⊢
  obtain ⟨qe, qL⟩ := q
  simp only [] at HKEEP ⊢
  have htm : Hid (∃ tm, tm = (runRecs m.pl L.done).time) := ⟨_, rfl⟩
  obtain ⟨tm, htm⟩ := htm.out
  rw [← htm] at HT h3 ht0 htB
  have h3' : tm + N ≤ 2000 := by omega
  clear hst hL hp hpw hpl e hk h1 h2 h3 htm hrec
  go_enter Tryz.func37, Tryz.ntmps37
  go_wp2_with (go_at_call 31; refine HT.out.mono ?_; rintro e w1 ⟨rfl, rfl⟩)
  have h4 := HST.out.add (w1 := w.alloc (.cells #[.int .i64 N] 3)) ((Below.refl _ _).alloc (Nat.le_refl _) _) (con_lie (heap_alloc_new w (.cells #[.int .i64 N] 3))) (fun _ hj => hj.elim) (fun j hj => .inl (by have : j = w.heap.size := hj; omega))
  refine (HKEEP.out _ h4).mono ?_
  clear h4 HKEEP c8 c4
  rintro e w2 ⟨rfl, M', hst⟩
  have HS2 := hid (hst.few (ts := [kTh kb m.pl M' (runRecs m.pl qL.done), lgT lb m kb qL, planT m]))
  clear hst
  go_wp2_with fail
  go_ret
  exact ⟨rfl, kb, M', HS2.out⟩
theorem lgsync_any (hL : LgOk m.pl L) (h : LgAt w0 w lb m L) :
    Calls Tryz.prog 38 #[.pointer (some ⟨lb, 0, none⟩)] w fun e w' => e = .returned (errV L.syncE.1) ∧ LgAt w0 w' lb m L.syncE.2 := by
  obtain ⟨kb, M, hst⟩ := h
  obtain ⟨c4, _, _, _, c8, hl, _⟩ := lg_cells hst
  have HST := hid hst
  by_cases h1 : L.stopped = true
  · have e : L.syncE = (6, L) := by unfold Lg.syncE; rw [if_pos h1]
    rw [h1] at c8
    rw [e]
    dsimp only
    rw [errV_pos (by decide)]
    clear hst hL e
    go_enter Tryz.func38, Tryz.ntmps38
    go_wp2_with fail
    go_ret
    exact ⟨rfl, kb, M, HST.out⟩
  have h1' : L.stopped = false := by simpa using h1
  rw [h1'] at c8
  have hstep := lgstep_any hL.left hL.leftB (show w.heap[lb]? = some (.cells (lgCells m kb L) 174 (0, 0)) from (hst.get (i := 1) rfl).here)
  by_cases h2 : L.left = 0
  · have e : L.syncE = (6, ⟨L.done, L.part, L.safe, -1, true⟩) := by unfold Lg.syncE; rw [if_neg h1, if_pos h2]
    rw [e]
    dsimp only
    rw [errV_pos (by decide)]
    rw [decide_eq_true h2, if_pos (show L.left ≤ 0 by omega)] at hstep
    have HSTEP := hid hstep
    clear hst hL e hstep h1 h2
    go_enter Tryz.func38, Tryz.ntmps38
    go_wp2_with (go_at_call 97; refine HSTEP.out.mono ?_; rintro e w1 ⟨rfl, hk, hx⟩; have HK := hid hk; have HX := hid hx; clear hk hx HSTEP)
    go_ret
    exact ⟨rfl, kb, M, HST.out.go 1 rfl (lg_went (L' := ⟨L.done, L.part, L.safe, -1, true⟩) HK.out HX.out)⟩
  · have e : L.syncE = (0, ⟨L.done, L.part, L.text.length, L.left', false⟩) := by unfold Lg.syncE; rw [if_neg h1, if_neg h2]
    rw [e]
    dsimp only
    rw [errV_zero]
    rw [decide_eq_false h2] at hstep
    have HSTEP := hid hstep
    obtain ⟨S, hS⟩ : ∃ S : ByteArray, S = ⟨L.text.toArray⟩ := ⟨_, rfl⟩
    have hz : S.size = L.text.length := by rw [hS, Lib.size_eq]
    unfold txt at HSTEP
    rw [← hS] at HSTEP
    have HZ := hid hz
    have HSE := hid hS
    clear hst hL e hstep h1 h2 hz hS
    go_enter Tryz.func38, Tryz.ntmps38
    go_wp2_with (go_at_call 97; refine HSTEP.out.mono ?_; rintro e w1 ⟨rfl, hk, hx⟩; have HK := hid hk; have HX := hid hx; have c5 := blk_cell hx 5; have c6 := blk_cell hx 6; have f6 := blk_free hx 6; have hl1 := blk_lt hx; simp at c5 c6; clear hk hx HSTEP)
    go_ret
    refine ⟨rfl, kb, M, HST.out.go 1 rfl (lg_went (L' := ⟨L.done, L.part, L.text.length, L.left', false⟩) (HK.out.setCell (.inl rfl) _) ?_)⟩
    refine (blk_set HX.out 6 _).trans ?_
    have hz2 : (⟨L.text.toArray⟩ : ByteArray).size = L.text.length := by rw [Lib.size_eq]
    rw [HSE.out, hz2]
    rfl
end
end Go.Proofs.YthafahnlfpkkbaaGreatDoor
