/- The walk of framelaw4.TraceTurns: it returns true at every input. -/
import Derived.Test.YtongkiccglaniaaDoorTraceDel
import Derived.Test.YtongkiccglaniaaDoorTraceLaw
import Derived.Test.YtongkiccglaniaaDoorTraceRunW
import Derived.Test.YtongkiccglaniaaDoorDoorU
namespace Go.Proofs.YtongkiccglaniaaDoor
open Go.RowKit
set_option maxRecDepth 100000

theorem left_turns {p : Pl} (hp : PlOk p) (r : Int) (n : Nat) : left r (evsTo p n) = cntH (hitB p.spans p.ticks.toNat r) 0 n := by
  have ht := frameChk_ticks hp.frame
  rw [← evs_turns hp (T := p.ticks.toNat) (by omega) r n]
  unfold left otherRoom
  simp
theorem run_ok {p : Pl} {n : Int} (h : runE p n = 0) : planChk p = 0 ∧ 0 ≤ n ∧ n ≤ 2000 := by
  unfold runE at h
  by_cases he : planChk p = 0
  · rw [if_neg (by simpa using he)] at h
    by_cases hn : 0 ≤ n ∧ n ≤ 2000
    · exact ⟨he, hn⟩
    · rw [if_neg hn] at h; simp at h
  · rw [if_pos he] at h; exact absurd h he

set_option maxHeartbeats 4000000 in
theorem traceTurns_walk {w : World} (hg : Handle w) (hf : Forms w) (m : PM) (hm : PlanAt w m) (n r : Int) :
    Calls Tryd.prog 16 #[.agg #[.slice m.A m.ros.length m.c, .int .i64 m.ticks, .slice m.sA m.spans.length m.sc, .slice m.wA m.wires.length m.wc], .int .i64 n, .int .i64 r] w fun e w' => e = .returned (.bool true) ∧ Below w.heap.size w w' := by
  have HG := hid hg
  have HM := hid hm
  obtain ⟨w1, hw1⟩ : ∃ w1, w1 = w.alloc (.cells #[.slice m.A m.ros.length m.c, .int .i64 m.ticks, .slice m.sA m.spans.length m.sc, .slice m.wA m.wires.length m.wc] 31) := ⟨_, rfl⟩
  have hb1 : Below w.heap.size w w1 := by rw [hw1]; exact (Below.refl _ _).alloc (Nat.le_refl _) _
  have hbox : w1.heap[w.heap.size]? = some (.cells #[.slice m.A m.ros.length m.c, .int .i64 m.ticks, .slice m.sA m.spans.length m.sc, .slice m.wA m.wires.length m.wc] 31 (0, 0)) := by rw [hw1]; exact heap_alloc_new w _
  have hrun := traceRun_any w1 m n (hf.new hb1) (hm.new hb1)
  obtain ⟨nn, hnn⟩ : ∃ nn, m.ros.length = nn := ⟨_, rfl⟩
  obtain ⟨ns, hns⟩ : ∃ ns, m.spans.length = ns := ⟨_, rfl⟩
  obtain ⟨nw, hnw⟩ : ∃ nw, m.wires.length = nw := ⟨_, rfl⟩
  rw [hnn, hns, hnw] at hw1 hbox hrun ⊢
  unfold TraceV at hrun
  have HNS := hid hns
  have HB1 := hid hb1
  have HXS : Hid (∀ w', Below w1.heap.size w1 w' → w'.cell? ⟨w.heap.size, 0, none⟩ = some (.slice m.A nn m.c) ∧ w'.cell? ⟨w.heap.size, 1, none⟩ = some (.int .i64 m.ticks) ∧ w'.cell? ⟨w.heap.size, 2, none⟩ = some (.slice m.sA ns m.sc) ∧ w'.cell? ⟨w.heap.size, 3, none⟩ = some (.slice m.wA nw m.wc) ∧ w.heap.size < w'.heap.size) := fun w' hb => by
    have h := (hb.block _ (blk_lt hbox)).trans hbox
    exact ⟨blk_cell h 0, blk_cell h 1, blk_cell h 2, blk_cell h 3, blk_lt h⟩
  have HRUN := hid hrun
  clear hg hf hm hb1 hbox hnn hns hnw hrun
  by_cases hin : 0 ≤ n ∧ n ≤ 200 ∧ 0 ≤ r ∧ r ≤ 4
  · obtain ⟨h1, h2, h3, h4⟩ := hin
    obtain ⟨x0, x1, x2, x3, hlx⟩ := HXS.out _ (Below.refl _ _)
    go_enter Tryd.func16, Tryd.ntmps16
    go_upto_region 1 with fail
    rw [← hw1]
    clear hw1
    go_wp2_with fail
    refine HRUN.out.mono ?_
    clear HRUN x0 x1 x2 x3 hlx
    rintro e w2 (⟨hE, rfl, hb2⟩ | ⟨hE, A, mm, c, rfl, hmm, hgr⟩)
    · have HB2 := hid (HB1.out.trans (hb2.mono HB1.out.size))
      rw [errV_pos hE]
      clear hE hb2
      go_wp2_with fail
      go_ret
      exact ⟨rfl, HB2.out⟩
    · obtain ⟨he, _, _⟩ := run_ok hE
      have hp := planChk_ok he
      subst hmm
      have HB2 := hid (HB1.out.trans (hgr.below.mono HB1.out.size))
      have HXB := hid hgr.below
      have hwr : wIn r (-1) 4 = true := by unfold wIn; rw [decide_eq_true (show (-1 : Int) ≤ r by omega), decide_eq_true h4]; rfl
      have hof := of_good A mm c (evsTo m.pl mm) r w2 (evsTo_len _ _) hgr.row.sl hgr.row.slW (by omega) (evs_ok hp (by omega)) hwr
      rw [left_turns hp] at hof
      have hsup : supTurnsOf m.ticks m.spans r 0 mm = (((cntH (hitB m.pl.spans m.pl.ticks.toNat r) 0 mm : Nat) : Int), 0) := by
        unfold supTurnsOf
        have hrd : readyOf m.ticks m.spans r = 0 := by
          unfold readyOf
          rw [if_neg (by rw [show (frameChk m.ticks m.spans).2 = 0 from hp.frame]; simp), if_neg (by unfold roomB; simp; omega)]
        rw [if_neg (by rw [hrd]; simp), if_pos ⟨by omega, by omega, by omega, by omega⟩]
        rfl
      have HST : Hid (∀ w', Below w.heap.size w w' → Calls Tryd.prog 60 #[.int .i64 m.ticks, .slice m.sA ns m.sc, .int .i64 r, .int .i64 0, .int .i64 mm] w' fun e w'' => e = .returned (.tuple #[.int .i64 (cntH (hitB m.pl.spans m.pl.ticks.toNat r) 0 mm : Nat), .nilIface]) ∧ Below w'.heap.size w' w'') := fun w' hb => by
        have hmw := HM.out.new hb
        have hsw := hmw.spansW
        have hss := hmw.spans
        have h := sup_turns m.ticks r 0 mm m.sA m.spans.length m.sc m.spans w' rfl hss hsw
        rw [HNS.out, hsup] at h
        unfold Tell at h
        simp only [] at h
        rw [errV_zero] at h
        exact h
      generalize cntH (hitB m.pl.spans m.pl.ticks.toNat r) 0 mm = K at hof HST
      clear hE he hp hgr hwr hsup
      go_wp2_with fail
      refine hof.mono ?_
      clear hof
      rintro e w3 ⟨A3, k3, c3, rfl, rfl, hkn, hb3⟩
      have HB3 := hid (HB2.out.trans (hb3.mono HB2.out.size))
      obtain ⟨x0, x1, x2, x3, hlx⟩ := HXS.out _ (HXB.out.trans (hb3.mono HXB.out.size))
      clear hb3
      go_wp2_with fail
      refine (HST.out _ HB3.out).mono ?_
      rintro e w4 ⟨rfl, hb4⟩
      have HB4 := hid (HB3.out.trans (hb4.mono HB3.out.size))
      clear hb4 x0 x1 x2 x3 hlx
      go_wp2_with fail
      go_ret
      exact ⟨rfl, HB4.out⟩
  · have hout : n < 0 ∨ (0 ≤ n ∧ 200 < n) ∨ (0 ≤ n ∧ n ≤ 200 ∧ r < 0) ∨ (0 ≤ n ∧ n ≤ 200 ∧ 0 ≤ r ∧ 4 < r) := by omega
    clear hin HRUN
    obtain ⟨x0, x1, x2, x3, hlx⟩ := HXS.out _ (Below.refl _ _)
    rcases hout with h1 | ⟨h1, h2⟩ | ⟨h1, h2, h3⟩ | ⟨h1, h2, h3, h4⟩
    all_goals
      go_enter Tryd.func16, Tryd.ntmps16
      go_upto_region 1 with fail
      rw [← hw1]
      clear hw1
      go_wp2_with fail
      refine (of_none _).mono ?_
      rintro e w2 ⟨rfl, hb2⟩
      have HB2 := hid (HB1.out.trans (hb2.mono HB1.out.size))
      have hes := error_same 1 w2 (HG.out.new HB2.out)
      clear hb2 x0 x1 x2 x3 hlx
      go_wp2_with fail
      refine hes.mono ?_
      clear hes
      rintro e w3 ⟨rfl, hb3⟩
      have HB3 := hid (HB2.out.trans (hb3.mono HB2.out.size))
      clear hb3
      go_wp2_with fail
      go_ret
      exact ⟨rfl, HB3.out⟩
end Go.Proofs.YtongkiccglaniaaDoor
