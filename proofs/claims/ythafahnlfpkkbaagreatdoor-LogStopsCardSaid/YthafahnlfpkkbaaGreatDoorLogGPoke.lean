/- Package log: the contract of Poke, for every log. Conditions: the library's table of powers, which the row lists. -/
import Derived.Test.YthafahnlfpkkbaaGreatDoorLogGGo
namespace Go.Proofs.YthafahnlfpkkbaaGreatDoor
open Go.RowKit
set_option maxRecDepth 100000

section
variable {w0 w : World} {lb : Nat} {m : PM} {L : Lg}
set_option maxHeartbeats 4000000 in
theorem lgpoke_any (hp : PlOk m.pl) (hL : LgOk m.pl L) (hfew : L.done.length ≤ 1000) (hpw : Pows w0) (hpl : 3 < w0.heap.size) (r cell v : Int) (h : LgAt w0 w lb m L) :
    Calls Tryz.prog 46 #[.pointer (some ⟨lb, 0, none⟩), .int .i64 r, .int .i64 cell, .int .i64 v] w fun e w' => e = .returned (errV (L.pokeE m.pl r cell v).1) ∧ LgAt w0 w' lb m (L.pokeE m.pl r cell v).2 := by
  obtain ⟨kb, M, hst⟩ := h
  obtain ⟨c4, _, _, _, _, hl, _⟩ := lg_cells hst
  have hk := runRecs_ok hp hL.recs
  have HR := hid (krooms_any (hst.get (i := 0) rfl).here.1)
  rw [hk.rooms] at HR
  have hR1 := hp.some1
  have hR5 := hp.most5
  have HC8 : Hid (∀ w', Below w.heap.size w w' → w'.cell? ⟨lb, 8, none⟩ = some (.bool L.stopped) ∧ lb < w'.heap.size) := fun w' hb => by
    obtain ⟨_, _, _, _, c8, hl, _⟩ := lg_cells (hst.new hb)
    exact ⟨c8, hl⟩
  have HST := hid hst
  have HPO := hid hp
  have HLO := hid hL
  obtain ⟨q, hq⟩ : ∃ q, q = (runRecs m.pl L.done).lines.length := ⟨_, rfl⟩
  obtain ⟨R, hRR⟩ : ∃ R, R = m.pl.code.length := ⟨_, rfl⟩
  rw [← hq, ← hRR] at HR
  rw [← hRR] at hR1 hR5
  have HRR := hid hRR
  clear hst hq hk hRR
  by_cases h1 : L.stopped = true
  · have e : L.pokeE m.pl r cell v = (6, L) := by unfold Lg.pokeE; rw [if_pos h1]
    rw [h1] at HC8
    rw [e]
    dsimp only
    rw [errV_pos (by decide)]
    clear hL hp hpw hpl e
    go_enter Tryz.func46, Tryz.ntmps46
    go_wp2_with (go_at_call 77; refine HR.out.mono ?_; rintro e w1 ⟨rfl, hb1⟩; obtain ⟨c8, hl1⟩ := HC8.out _ hb1; have HB1 := hid hb1; clear hb1 HR)
    go_ret
    exact ⟨rfl, kb, M, HST.out.new HB1.out⟩
  have h1' : L.stopped = false := by simpa using h1
  rw [h1'] at HC8
  by_cases h2 : pokeOk m.pl.code.length r cell v = false
  · have e : L.pokeE m.pl r cell v = (1, L) := by unfold Lg.pokeE; rw [if_neg h1, if_pos h2]
    rw [e]
    dsimp only
    rw [errV_pos (by decide)]
    rw [← HRR.out] at h2
    have hbad : ¬ (0 ≤ r ∧ r < R ∧ 0 ≤ cell ∧ cell < 6 ∧ 0 ≤ v ∧ v < 1000) := by simpa [pokeOk] using h2
    clear hL hp hpw hpl e h2
    have hcs : r < 0 ∨ (0 ≤ r ∧ (R : Int) ≤ r) ∨ ((0 ≤ r ∧ r < R) ∧ cell < 0) ∨ ((0 ≤ r ∧ r < R) ∧ 0 ≤ cell ∧ 6 ≤ cell) ∨ ((0 ≤ r ∧ r < R) ∧ (0 ≤ cell ∧ cell < 6) ∧ v < 0) ∨ ((0 ≤ r ∧ r < R) ∧ (0 ≤ cell ∧ cell < 6) ∧ 0 ≤ v ∧ 1000 ≤ v) := by omega
    clear hbad
    rcases hcs with g | ⟨g0, g⟩ | ⟨⟨g0, g1⟩, g⟩ | ⟨⟨g0, g1⟩, g2, g⟩ | ⟨⟨g0, g1⟩, ⟨g2, g3⟩, g⟩ | ⟨⟨g0, g1⟩, ⟨g2, g3⟩, g4, g⟩
    all_goals
      try have d1 : decide (r < 0) = false := decide_eq_false (by omega)
      try have d2 : decide ((R : Int) ≤ r) = false := decide_eq_false (by omega)
      try have d3 : decide (cell < 0) = false := decide_eq_false (by omega)
      try have d4 : decide (6 ≤ cell) = false := decide_eq_false (by omega)
      try have d5 : decide (v < 0) = false := decide_eq_false (by omega)
      go_enter Tryz.func46, Tryz.ntmps46
      go_wp2_with (go_at_call 77; refine HR.out.mono ?_; rintro e w1 ⟨rfl, hb1⟩; obtain ⟨c8, hl1⟩ := HC8.out _ hb1; have HB1 := hid hb1; clear hb1 HR)
      go_ret
      exact ⟨rfl, kb, M, HST.out.new HB1.out⟩
  · have h2' : pokeOk m.pl.code.length r cell v = true := by simpa using h2
    have e : L.pokeE m.pl r cell v = L.put (.poke r.toNat cell.toNat v.toNat) := by unfold Lg.pokeE; rw [if_neg h1, if_neg h2]
    rw [e]
    rw [← HRR.out] at h2'
    have hok : 0 ≤ r ∧ r < R ∧ 0 ≤ cell ∧ cell < 6 ∧ 0 ≤ v ∧ v < 1000 := by simpa [pokeOk] using h2'
    clear e h2 h2'
    obtain ⟨rn, rfl⟩ : ∃ k : Nat, r = k := ⟨r.toNat, by omega⟩
    obtain ⟨cn, rfl⟩ : ∃ k : Nat, cell = k := ⟨cell.toNat, by omega⟩
    obtain ⟨vn, rfl⟩ : ∃ k : Nat, v = k := ⟨v.toNat, by omega⟩
    simp only [Int.toNat_natCast]
    have hrec : (Lrec.poke rn cn vn).ok m.pl.code.length := ⟨by rw [← HRR.out]; omega, by omega, by omega⟩
    have HKEEP : Hid (∀ w' nb, Stand w0 w' [kTh kb m.pl M (runRecs m.pl L.done), lgT lb m kb L, planT m, conT nb (.cells (ints [(rn : Int), (cn : Int), (vn : Int)]).toArray 3 (0, 0))] →
        Calls Tryz.prog 96 #[.pointer (some ⟨lb, 0, none⟩), .slice (some ⟨nb, 0, none⟩) 3 3] w' (LKept w0 lb kb nb m L (.poke rn cn vn))) := hid fun w' nb hs => lgkeep_any hp hL h1' hfew hrec hpw hpl hs
    unfold LKept at HKEEP
    generalize L.put (.poke rn cn vn) = q at HKEEP ⊢
    obtain ⟨qe, qL⟩ := q
    simp only [] at HKEEP ⊢
    obtain ⟨hr0, hr1, hc0, hc1, hv0, hv1⟩ := hok
    have d1 : decide ((rn : Int) < 0) = false := decide_eq_false (by omega)
    have d2 : decide ((R : Int) ≤ rn) = false := decide_eq_false (by omega)
    have d3 : decide ((cn : Int) < 0) = false := decide_eq_false (by omega)
    have d4 : decide (6 ≤ (cn : Int)) = false := decide_eq_false (by omega)
    have d5 : decide ((vn : Int) < 0) = false := decide_eq_false (by omega)
    have d6 : decide (1000 ≤ (vn : Int)) = false := decide_eq_false (by omega)
    clear hL hp hpw hpl h1 hrec
    go_enter Tryz.func46, Tryz.ntmps46
    go_wp2_with (go_at_call 77; refine HR.out.mono ?_; rintro e w1 ⟨rfl, hb1⟩; obtain ⟨c8, hl1⟩ := HC8.out _ hb1; have HS1 := hid (HST.out.new hb1); clear hb1 HR)
    have h3 := HS1.out.add (w1 := w1.alloc (.cells #[.int .i64 rn, .int .i64 cn, .int .i64 vn] 3)) ((Below.refl _ _).alloc (Nat.le_refl _) _) (con_lie (heap_alloc_new w1 (.cells #[.int .i64 rn, .int .i64 cn, .int .i64 vn] 3))) (fun _ hj => hj.elim) (fun j hj => .inl (by have : j = w1.heap.size := hj; omega))
    refine (HKEEP.out _ w1.heap.size h3).mono ?_
    clear h3 HKEEP
    rintro e w2 ⟨rfl, M', hst⟩
    have HS2 := hid (hst.few (ts := [kTh kb m.pl M' (runRecs m.pl qL.done), lgT lb m kb qL, planT m]))
    clear hst
    go_wp2_with fail
    go_ret
    exact ⟨rfl, kb, M', HS2.out⟩
end
end Go.Proofs.YthafahnlfpkkbaaGreatDoor
