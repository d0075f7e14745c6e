/- The walk of framelaw3.SpreadPlays: it returns true at every input. -/
import Derived.Test.YtongkiccglaniaaDoorSpreadGet
import Derived.Test.YtongkiccglaniaaDoorRSince
import Derived.Test.YtongkiccglaniaaDoorRPlanU
import Derived.Test.YtongkiccglaniaaDoorSameU
import Derived.Test.YtongkiccglaniaaDoorDoorU
import Derived.IntWalk
import Derived.StillTailTactics
import Derived.Deep.DeepCutAuto
import Derived.Deep.CutBlock
namespace Go.Proofs.YtongkiccglaniaaDoor
open Go.RowKit
set_option maxRecDepth 100000

/-- A block of the walk's own, that may be written. -/
theorem Stand.lab {w wr : World} {ts : List Tg} (h : Stand w wr ts) (cs : Array Value) (T : Nat) : Stand w (wr.alloc (.cells cs T)) (ts ++ [blkT wr.heap.size (.cells cs T (0, 0))]) :=
  h.add ((Below.refl _ _).alloc (Nat.le_refl _) _) (blk_lie (heap_alloc_new wr _)) (fun j hj => by have : j = wr.heap.size := hj; omega) fun j hj => .inl (by have : j = wr.heap.size := hj; omega)

set_option maxHeartbeats 8000000 in
theorem spreadPlays_walk {w : World} (hg : Handle w) (hf : Forms w) (m : PM) (hm : PlanAt w m) (n r q : Int) :
    Calls Tryd.prog 8 #[.agg #[.slice m.A m.ros.length m.c, .int .i64 m.ticks, .slice m.sA m.spans.length m.sc, .slice m.wA m.wires.length m.wc], .int .i64 n, .int .i64 r, .int .i64 q] w fun e w' => e = .returned (.bool true) ∧ Below w.heap.size w w' := by
  have HG := hid hg
  have HF := hid hf
  have HM := hid hm
  have HPF := hid hm.lt
  obtain ⟨w1, hw1⟩ : ∃ w1, w1 = w.alloc (.cells #[.slice m.A m.ros.length m.c, .int .i64 m.ticks, .slice m.sA m.spans.length m.sc, .slice m.wA m.wires.length m.wc] 31) := ⟨_, rfl⟩
  have hb1 : Below w.heap.size w w1 := by rw [hw1]; exact (Below.refl _ _).alloc (Nat.le_refl _) _
  have hbox : w1.heap[w.heap.size]? = some (.cells #[.slice m.A m.ros.length m.c, .int .i64 m.ticks, .slice m.sA m.spans.length m.sc, .slice m.wA m.wires.length m.wc] 31 (0, 0)) := by rw [hw1]; exact heap_alloc_new w _
  have hRP := rplan_any w1 m (hm.new hb1)
  obtain ⟨nn, hnn⟩ : ∃ nn, m.ros.length = nn := ⟨_, rfl⟩
  obtain ⟨ns, hns⟩ : ∃ ns, m.spans.length = ns := ⟨_, rfl⟩
  obtain ⟨nw, hnw⟩ : ∃ nw, m.wires.length = nw := ⟨_, rfl⟩
  rw [hnn, hns, hnw] at hw1 hbox hRP ⊢
  have HNN := hid hnn
  have HNS := hid hns
  have HNW := hid hnw
  have HRP := hid hRP
  have HB1 := hid hb1
  have HXS : Hid (∀ w', Below w1.heap.size w1 w' → w'.cell? ⟨w.heap.size, 0, none⟩ = some (.slice m.A nn m.c) ∧ w'.cell? ⟨w.heap.size, 1, none⟩ = some (.int .i64 m.ticks) ∧ w'.cell? ⟨w.heap.size, 2, none⟩ = some (.slice m.sA ns m.sc) ∧ w'.cell? ⟨w.heap.size, 3, none⟩ = some (.slice m.wA nw m.wc) ∧ w.heap.size < w'.heap.size) := fun w' hb => by
    have h := (hb.block _ (blk_lt hbox)).trans hbox
    exact ⟨blk_cell h 0, blk_cell h 1, blk_cell h 2, blk_cell h 3, blk_lt h⟩
  clear hg hf hm hb1 hbox hRP hnn hns hnw
  obtain ⟨x0, x1, x2, x3, hlx⟩ := HXS.out _ (Below.refl _ _)
  go_enter Tryd.func8, Tryd.ntmps8
  go_wp2_with fail
  rw [← hw1]
  clear hw1
  go_wp2_with fail
  refine HRP.out.mono ?_
  rintro e w2 ⟨rfl, hb2⟩
  have HB2 := hid (HB1.out.trans (hb2.mono HB1.out.size))
  have HXB := hid hb2
  clear hb2 HRP x0 x1 x2 x3 hlx
  obtain ⟨x0, x1, x2, x3, hlx⟩ := HXS.out _ HXB.out
  by_cases he : planChk m.pl = 0
  · have hnew := spread_good (HF.out.new HB2.out) (HM.out.new HB2.out) he
    unfold SNew at hnew
    rw [HNN.out, HNS.out, HNW.out] at hnew
    rw [he]
    have HE := hid he
    have HP := hid (planChk_ok he)
    clear he
    go_wp2_with fail
    refine hnew.mono ?_
    clear hnew
    rintro e w3 ⟨sb, S3, rfl, hst3, _⟩
    have HS3 := hid hst3
    have HB3 := hid (HB2.out.trans (hst3.below.mono HB2.out.size))
    clear hst3
    go_wp2_with fail
    have hsame := error_same 0 w3 (HG.out.new HB3.out)
    rw [errV_zero] at hsame
    refine hsame.mono ?_
    clear hsame x0 x1 x2 x3 hlx
    rintro e w4 ⟨rfl, hb4⟩
    have HS4 := hid (HS3.out.new hb4)
    clear hb4 HS3 HB3
    obtain ⟨x0, x1, x2, x3, hlx⟩ := HXS.out _ (HXB.out.trans (HS4.out.below.mono HXB.out.size))
    go_wp2_with fail
    have hnew := rnew_run w4 m (HM.out.new (HB2.out.trans (HS4.out.below.mono HB2.out.size))) HE.out
    unfold RNewd at hnew
    rw [HNN.out, HNS.out, HNW.out] at hnew
    refine hnew.mono ?_
    clear hnew x0 x1 x2 x3 hlx
    rintro e w5 ⟨mb, N5, rfl, hr5, hP5⟩
    have HS5 : Hid (Stand w2 w5 [spreadT sb m.pl S3 (runK m.pl 0), rkT mb m.pl N5 (runK m.pl 0)]) := Stand.addR HS4.out hr5 fun j hj => by rw [hP5] at hj; exact Nat.lt_of_lt_of_le (HPF.out j hj) HB2.out.size
    clear hr5 hP5 HS4
    have HLC : Hid (m.pl.code.length = nn) := by show m.pl.code.length = nn; rw [← HNN.out]; simp [PM.pl]
    have HLW : Hid (m.pl.wires.length = nw) := HNW.out
    have hnn5 : nn ≤ 5 := by have := HP.out.most5; rw [HLC.out] at this; exact this
    have hnw12 : nw ≤ 12 := by have := wires_few HP.out; rw [HLW.out] at this; exact this
    go_wp2_with fail
    go_loopw [14] (fun v14 wr => ∃ (i : Nat) (S : SM) (N : KM), i ≤ 120 ∧ v14 = .int .i64 i ∧ Stand w2 wr [spreadT sb m.pl S (runK m.pl i), rkT mb m.pl N (runK m.pl i)]) (fun v14 _ => 120 - (intOf v14).toNat)
    case atStart => exact ⟨0, S3, N5, by omega, rfl, HS5.out⟩
    case round =>
      obtain ⟨wo, rfl⟩ : ∃ wo : World, wo = wr := ⟨_, rfl⟩
      obtain ⟨i, S, N, hi, rfl, hst⟩ := hrel
      have HSR := hid hst
      have HBO := hid (HB2.out.trans (hst.below.mono HB2.out.size))
      clear hst HS5
      by_cases hin : (i : Int) < n ∧ i < 120
      · obtain ⟨hin, h120⟩ := hin
        have h120' : (i : Int) < 120 := by omega
        have htk := stick_stand (i := 0) HSR.out rfl (HF.out.new HB2.out) HP.out (runK_ok HP.out i) (by omega)
        obtain ⟨q', hq⟩ : ∃ q, q = tick m.pl (runK m.pl i) := ⟨_, rfl⟩
        have hq2 : q'.2 = runK m.pl (i + 1) := by rw [hq]; rfl
        have HKT : Hid (∀ (w' : World) (S' : SM), Stand w2 w' [spreadT sb m.pl S' q'.2, rkT mb m.pl N (runK m.pl i)] → Calls Tryd.prog 35 #[.pointer (some ⟨mb, 0, none⟩)] w' fun e w'' => ∃ N', e = .returned (.agg #[.int .i64 q'.1.tick, .int .i64 q'.1.room, .int .i64 q'.1.pc, .int .i64 q'.1.what]) ∧ Stand w2 w'' [spreadT sb m.pl S' q'.2, rkT mb m.pl N' q'.2]) := fun w' S' h => by
          rw [hq] at h ⊢; exact rtick_stand (i := 1) h rfl HP.out (runK_ok HP.out i) (by omega)
        rw [← hq] at htk
        obtain ⟨⟨tk, rm, pc, wh⟩, k'⟩ := q'
        simp only [] at hq2 htk
        subst hq2
        simp only [] at HKT
        have hne : ∀ w, (binOp .eql 34 (.agg #[.int .i64 tk, .int .i64 rm, .int .i64 pc, .int .i64 wh]) (.agg #[.int .i64 tk, .int .i64 rm, .int .i64 pc, .int .i64 wh])).run Tryd.prog w = .ok (.bool true) w := fun w => event_eql ⟨tk, rm, pc, wh⟩ w
        have hge := event_guard
        clear hq
        go_wp2_with fail
        refine htk.mono ?_
        clear htk
        rintro e w9 ⟨S', rfl, hst⟩
        have HS9 : Hid (Stand w2 w9 [spreadT sb m.pl S' (runK m.pl (i + 1)), rkT mb m.pl N (runK m.pl i)]) := hst
        clear hst
        go_wp2_with fail
        refine (HKT.out _ S' HS9.out).mono ?_
        rintro e wd ⟨N', rfl, hst⟩
        have HSD := hid hst
        clear hst HS9 HSR HKT HBO
        go_upto_region 12 with fail
        clear hne hge
        obtain ⟨k', hk'⟩ : ∃ k', runK m.pl (i + 1) = k' := ⟨_, rfl⟩
        have HOK : Hid (KOk m.pl k' ((i + 1 : Nat) : Int)) := by show KOk m.pl k' _; rw [← hk']; exact runK_ok HP.out (i + 1)
        rw [hk'] at HSD
        have HKE := hid hk'
        have HRL : Hid (k'.rooms.length = nn) := by show k'.rooms.length = nn; rw [HOK.out.rooms, HLC.out]
        have HLL : Hid (k'.lines.length = nw) := by show k'.lines.length = nw; rw [lines_len HOK.out, HLW.out]
        clear hk'
        have HSE := hid (HSD.out.lab #[.int .i64 0, .int .i64 0, .int .i64 0, .int .i64 0, .int .i64 0, .int .i64 0, .int .i64 0, .bool false] 40)
        obtain ⟨we, hwe⟩ : ∃ we, we = wd.alloc (.cells #[.int .i64 0, .int .i64 0, .int .i64 0, .int .i64 0, .int .i64 0, .int .i64 0, .int .i64 0, .bool false] 40) := ⟨_, rfl⟩
        obtain ⟨tb, htb⟩ : ∃ tb, tb = wd.heap.size := ⟨_, rfl⟩
        rw [← hwe, ← htb] at HSE
        go_upto_region 13 with fail
        rw [← hwe, ← htb]
        clear hwe htb HSD
        obtain ⟨x0, x1, x2, x3, hlx⟩ := HXS.out _ (HXB.out.trans (HSE.out.below.mono HXB.out.size))
        go_cut [64] (fun v wx => v = .bool (!inB r nn) ∧ wx = we)
        case first =>
          as_aux_lemma =>
          by_cases h1 : r < 0
          · have hi1 : inB r nn = false := by unfold inB; exact decide_eq_false (by omega)
            have hd1 : decide (r < 0) = true := decide_eq_true h1
            go_wp2_with fail
            go_meet
            exact ⟨by rw [hi1]; rfl, rfl⟩
          · have hd1 : decide (r < 0) = false := decide_eq_false h1
            by_cases h2 : (nn : Int) ≤ r
            · have hi1 : inB r nn = false := by unfold inB; exact decide_eq_false (by omega)
              have hd2 : decide ((nn : Int) ≤ r) = true := decide_eq_true h2
              go_wp2_with fail
              go_meet
              exact ⟨by rw [hi1]; rfl, rfl⟩
            · have hi1 : inB r nn = true := by unfold inB; exact decide_eq_true (by omega)
              have hd2 : decide ((nn : Int) ≤ r) = false := decide_eq_false h2
              go_wp2_with fail
              go_meet
              exact ⟨by rw [hi1]; rfl, rfl⟩
        obtain ⟨rfl, rfl⟩ := hcut
        obtain ⟨we, rfl⟩ : ∃ we : World, we = wc := ⟨_, rfl⟩
        clear x0 x1 x2 x3 hlx
        obtain ⟨z, hst⟩ : ∃ z : St × Int, z = stateOf k' r := ⟨_, rfl⟩
        obtain ⟨⟨sp, s0, s1, s2, s3, s4, s5, sf⟩, se⟩ := z
        have HST := hid hst
        clear hst
        go_upto_if 64 with fail
        go_cut [9] (fun v9 wx => v9 = .int .i64 se ∧ Stand w2 wx [spreadT sb m.pl S' k', rkT mb m.pl N' k', blkT tb (.cells #[.int .i64 sp, .int .i64 s0, .int .i64 s1, .int .i64 s2, .int .i64 s3, .int .i64 s4, .int .i64 s5, .bool sf] 40 (0, 0))])
        case first =>
          as_aux_lemma =>
          cases hin : inB r nn with
          | false =>
            have hq := HST.out
            unfold stateOf at hq
            rw [HRL.out, hin, if_neg (by decide)] at hq
            simp only [St.zero, Prod.mk.injEq, St.mk.injEq] at hq
            obtain ⟨⟨rfl, rfl, rfl, rfl, rfl, rfl, rfl, rfl⟩, rfl⟩ := hq
            clear hin
            go_wp2_with fail
            go_meet
            exact ⟨rfl, HSE.out⟩
          | true =>
            have hb1 : 0 ≤ r ∧ r < nn := by simpa [inB] using hin
            obtain ⟨R, rfl⟩ : ∃ R : Nat, r = R := ⟨r.toNat, by omega⟩
            have hgs : k'.rooms[R]? = some ⟨sp, s0, s1, s2, s3, s4, s5, sf⟩ ∧ se = 0 := by
              have h := HST.out
              unfold stateOf at h
              rw [HRL.out, hin, if_pos rfl, Int.toNat_natCast] at h
              simp only [Prod.mk.injEq] at h
              refine ⟨?_, h.2⟩
              rw [h.1, List.getD_eq_getElem?_getD, List.getElem?_eq_getElem (by rw [HRL.out]; omega)]; rfl
            obtain ⟨hgs, rfl⟩ := hgs
            have hkk := (HSE.out.get (i := 1) rfl).here.1
            obtain ⟨rb, roff, hrA, ⟨y0, y1, y2, y3, y4, y5, y6, y7⟩, hrf, hrb, hrkb, hrl, hrc, hrm⟩ := hkk.room hgs
            obtain ⟨_, _, _, k4, _, _, _, hmb⟩ := hkk.cells
            rw [hrA, HRL.out] at k4
            rw [HRL.out] at hrl hrc
            simp only [] at y0 y1 y2 y3 y4 y5 y6 y7
            unfold maxLen at hrm
            clear hin hb1 hgs hrA hrf hkk
            have hRnn : R < nn := by have := hrl; omega
            go_wp2_with (refine wpList_store_rowK rfl 40 _ _ rfl tb #[.int .i64 sp, .int .i64 s0, .int .i64 s1, .int .i64 s2, .int .i64 s3, .int .i64 s4, .int .i64 s5, .bool sf] rfl rfl 40 _ (HSE.out.get (i := 2) rfl).here (by kernel_rfl) rfl (by simp [Value.oneCell']) ?_)
            intro wx hx hk _
            have HSX : Hid (Stand w2 wx [spreadT sb m.pl S' k', rkT mb m.pl N' k', blkT tb (.cells #[.int .i64 sp, .int .i64 s0, .int .i64 s1, .int .i64 s2, .int .i64 s3, .int .i64 s4, .int .i64 s5, .bool sf] 40 (0, 0))]) := HSE.out.go 2 rfl (blk_went (HSE.out.get (i := 2) rfl) hk hx)
            clear hx hk y0 y1 y2 y3 y4 y5 y6 y7 k4
            go_wp2_with fail
            go_meet
            exact ⟨rfl, HSX.out⟩
        obtain ⟨rfl, hsf⟩ := hcut
        obtain ⟨wf, rfl⟩ : ∃ wf : World, wf = wc := ⟨_, rfl⟩
        have HSF := hid hsf
        clear hsf HSE
        have hr5 : k'.rooms.length ≤ 5 := by rw [HRL.out]; exact hnn5
        have hks := sstate_any (HSF.out.get (i := 0) rfl).here hr5 r
        rw [← HST.out] at hks
        unfold StateV stV at hks
        clear hr5
        go_wp2_with fail
        refine hks.mono ?_
        clear hks
        rintro e wg ⟨rfl, hbg⟩
        have hsg := HSF.out.new hbg
        have hsh := hsg.lay #[.int .i64 sp, .int .i64 s0, .int .i64 s1, .int .i64 s2, .int .i64 s3, .int .i64 s4, .int .i64 s5, .bool sf] 40
        obtain ⟨wh', hwh⟩ : ∃ wh', wh' = wg.alloc (.cells #[.int .i64 sp, .int .i64 s0, .int .i64 s1, .int .i64 s2, .int .i64 s3, .int .i64 s4, .int .i64 s5, .bool sf] 40) := ⟨_, rfl⟩
        obtain ⟨ub, hub⟩ : ∃ ub, ub = wg.heap.size := ⟨_, rfl⟩
        rw [← hwh, ← hub] at hsh
        have HSH := hid hsh
        clear hbg hsg hsh HSF
        go_upto_region 17 with fail
        rw [← hwh, ← hub]
        clear hwh hub
        have hes := error_same se wh' (HG.out.new (HB2.out.trans (HSH.out.below.mono HB2.out.size)))
        go_wp2_with fail
        refine hes.mono ?_
        clear hes
        rintro e wi ⟨rfl, hbi⟩
        have HSI := hid (HSH.out.new hbi)
        clear hbi HSH
        have ht1 : wi.heap[tb]? = some (.cells #[.int .i64 sp, .int .i64 s0, .int .i64 s1, .int .i64 s2, .int .i64 s3, .int .i64 s4, .int .i64 s5, .bool sf] 40 (0, 0)) := (HSI.out.get (i := 2) rfl).here
        have ht2 : wi.heap[ub]? = some (.cells #[.int .i64 sp, .int .i64 s0, .int .i64 s1, .int .i64 s2, .int .i64 s3, .int .i64 s4, .int .i64 s5, .bool sf] 40 (0, 0)) := (HSI.out.get (i := 3) rfl).here
        have y0 := blk_cell ht1 0
        have y1 := blk_cell ht1 1
        have y2 := blk_cell ht1 2
        have y3 := blk_cell ht1 3
        have y4 := blk_cell ht1 4
        have y5 := blk_cell ht1 5
        have y6 := blk_cell ht1 6
        have y7 := blk_cell ht1 7
        have z0 := blk_cell ht2 0
        have z1 := blk_cell ht2 1
        have z2 := blk_cell ht2 2
        have z3 := blk_cell ht2 3
        have z4 := blk_cell ht2 4
        have z5 := blk_cell ht2 5
        have z6 := blk_cell ht2 6
        have z7 := blk_cell ht2 7
        simp at y0 y1 y2 y3 y4 y5 y6 y7 z0 z1 z2 z3 z4 z5 z6 z7
        have hltt := blk_lt ht1
        have hlts := blk_lt ht2
        have hgd := state_guard
        have heq : ∀ w, (binOp .eql 40 (.agg #[.int .i64 sp, .int .i64 s0, .int .i64 s1, .int .i64 s2, .int .i64 s3, .int .i64 s4, .int .i64 s5, .bool sf]) (.agg #[.int .i64 sp, .int .i64 s0, .int .i64 s1, .int .i64 s2, .int .i64 s3, .int .i64 s4, .int .i64 s5, .bool sf])).run Tryd.prog w = .ok (.bool true) w := fun w => by
          have := state_eql ⟨sp, s0, s1, s2, s3, s4, s5, sf⟩ ⟨sp, s0, s1, s2, s3, s4, s5, sf⟩ w
          rw [stEq_refl] at this; exact this
        clear ht1 ht2
        go_upto_region 19 with fail
        clear y0 y1 y2 y3 y4 y5 y6 y7 z0 z1 z2 z3 z4 z5 z6 z7 hltt hlts hgd heq HST
        have hsj : Stand w2 wi [spreadT sb m.pl S' k', rkT mb m.pl N' k'] := HSI.out.few (us := [blkT tb _, conT ub _])
        have HSJ := hid (hsj.lab #[.slice none 0 0, .int .i64 0] 73)
        obtain ⟨wj, hwj⟩ : ∃ wj, wj = wi.alloc (.cells #[.slice none 0 0, .int .i64 0] 73) := ⟨_, rfl⟩
        obtain ⟨hb, hhb⟩ : ∃ hb, hb = wi.heap.size := ⟨_, rfl⟩
        rw [← hwj, ← hhb] at HSJ
        have HWJ : Hid (Below wi.heap.size wi wj) := by rw [hwj]; exact (Below.refl _ _).alloc (Nat.le_refl _) _
        have HHB := hid hhb
        have HSI2 := hid hsj
        clear hsj HSI
        go_upto_region 20 with fail
        rw [← hwj, ← hhb]
        clear hwj hhb
        obtain ⟨x0, x1, x2, x3, hlx⟩ := HXS.out _ (HXB.out.trans (HSJ.out.below.mono HXB.out.size))
        go_cut [94] (fun v wx => v = .bool (!inB q nw) ∧ wx = wj)
        case first =>
          as_aux_lemma =>
          by_cases h1 : q < 0
          · have hi1 : inB q nw = false := by unfold inB; exact decide_eq_false (by omega)
            have hd1 : decide (q < 0) = true := decide_eq_true h1
            go_wp2_with fail
            go_meet
            exact ⟨by rw [hi1]; rfl, rfl⟩
          · have hd1 : decide (q < 0) = false := decide_eq_false h1
            by_cases h2 : (nw : Int) ≤ q
            · have hi1 : inB q nw = false := by unfold inB; exact decide_eq_false (by omega)
              have hd2 : decide ((nw : Int) ≤ q) = true := decide_eq_true h2
              go_wp2_with fail
              go_meet
              exact ⟨by rw [hi1]; rfl, rfl⟩
            · have hi1 : inB q nw = true := by unfold inB; exact decide_eq_true (by omega)
              have hd2 : decide ((nw : Int) ≤ q) = false := decide_eq_false h2
              go_wp2_with fail
              go_meet
              exact ⟨by rw [hi1]; rfl, rfl⟩
        obtain ⟨rfl, rfl⟩ := hcut
        obtain ⟨wj, rfl⟩ : ∃ wj : World, wj = wc := ⟨_, rfl⟩
        clear x0 x1 x2 x3 hlx
        obtain ⟨z, hwo⟩ : ∃ z : (List Int × Int) × Int, z = wireOf k' q := ⟨_, rfl⟩
        obtain ⟨⟨hi', hl⟩, he⟩ := z
        obtain ⟨nh, hnh⟩ : ∃ nh, hi'.length = nh := ⟨_, rfl⟩
        have HWO := hid hwo
        have HNH := hid hnh
        clear hwo hnh
        go_upto_if 94 with fail
        go_cut [9] (fun v9 wx => ∃ (A1 : Option Addr) (c1 : Nat), v9 = .int .i64 he ∧ Stand w2 wx [spreadT sb m.pl S' k', rkT mb m.pl N' k', blkT hb (.cells #[.slice A1 nh c1, .int .i64 hl] 73 (0, 0))] ∧ HmAt wx ⟨A1, c1, hi', hl⟩)
        case first =>
          as_aux_lemma =>
          cases hin : inB q nw with
          | false =>
            have hq := HWO.out
            unfold wireOf at hq
            rw [HLL.out, hin, if_neg (by decide)] at hq
            simp only [Prod.mk.injEq] at hq
            obtain ⟨⟨rfl, rfl⟩, rfl⟩ := hq
            have hn0 : nh = 0 := HNH.out.symm
            subst hn0
            clear hin
            go_wp2_with fail
            go_meet
            exact ⟨none, 0, rfl, HSJ.out, ⟨Sl.nil _ _ _, Nat.le_refl _, Nat.zero_le _⟩⟩
          | true =>
            have hb1 : 0 ≤ q ∧ q < nw := by simpa [inB] using hin
            obtain ⟨J, rfl⟩ : ∃ J : Nat, q = J := ⟨q.toNat, by omega⟩
            have hgs : ∃ x, k'.lines[J]? = some x ∧ x.items = hi' ∧ x.lost = hl ∧ he = 0 := by
              have h := HWO.out
              unfold wireOf at h
              rw [HLL.out, hin, if_pos rfl, Int.toNat_natCast] at h
              simp only [Prod.mk.injEq] at h
              have hg := List.getElem?_eq_getElem (l := k'.lines) (i := J) (by rw [HLL.out]; omega)
              refine ⟨_, hg, ?_, ?_, h.2⟩
              · rw [h.1.1, List.getD_eq_getElem?_getD, hg]; rfl
              · rw [h.1.2, List.getD_eq_getElem?_getD, hg]; rfl
            obtain ⟨x, hgl, rfl, rfl, rfl⟩ := hgs
            have hsix := (HOK.out.lns x (List.mem_of_getElem? hgl)).six
            have hkk := (HSI2.out.get (i := 1) rfl).here.1
            obtain ⟨la, pb, poff, hla, hlA, hlp, hln, hlt', hpb⟩ := hkk.line hgl
            obtain ⟨_, _, _, _, k5, _, _, hmb⟩ := hkk.cells
            have hple := hkk.ptrs.le
            rw [hlA, HLL.out] at k5
            rw [HLL.out] at hple
            obtain ⟨cap, hlh, hlr⟩ := hln
            have hlc := hlr.le
            have hmm : HmAt wi ⟨la.A, cap, x.items, x.lost⟩ := ⟨hlr.sl, hlc.1, by simp only []; omega⟩
            have hlb := blk_lt hlh
            have s1 := HWJ.out.size
            have k5j := (HWJ.out.cell (p := ⟨mb, 5, none⟩) hmb).trans k5
            have lpj := (HWJ.out.cell (p := ⟨pb, poff + J, none⟩) hpb).trans hlp
            have r4 := (HWJ.out.cell (p := ⟨la.b, 4, none⟩) hlb).trans (blk_cell hlh 4)
            have r5 := (HWJ.out.cell (p := ⟨la.b, 5, none⟩) hlb).trans (blk_cell hlh 5)
            simp at r4 r5
            rw [HNH.out] at r4
            have hJn : J < nw := by omega
            have hmbj : mb < wj.heap.size := by omega
            have hpbj : pb < wj.heap.size := by omega
            have hlbj : la.b < wj.heap.size := by omega
            obtain ⟨hple1, hple2⟩ := hple
            unfold maxLen at hple2
            have HMM := hid hmm
            clear hin hb1 hgl hsix hla hlA hlp hlh hlr hlc hmm k5 hmb hpb hlb s1 hlt' hkk
            go_wp2_with (refine wpList_store_rowK rfl 73 _ _ rfl hb #[.slice la.A nh cap, .int .i64 x.lost] rfl rfl 73 _ (HSJ.out.get (i := 2) rfl).here (by kernel_rfl) rfl (by simp [Value.oneCell']) ?_)
            intro wx hx hk _
            have HSX : Hid (Stand w2 wx [spreadT sb m.pl S' k', rkT mb m.pl N' k', blkT hb (.cells #[.slice la.A nh cap, .int .i64 x.lost] 73 (0, 0))] ∧ HmAt wx ⟨la.A, cap, x.items, x.lost⟩) := by
              refine ⟨HSJ.out.go 2 rfl (blk_went (HSJ.out.get (i := 2) rfl) hk hx), ?_⟩
              have hbx : Below wi.heap.size wi wx := Keep.below (F := NoF) ((Keep.of_below NoF HWJ.out).then (w := wj) hk fun j hj hf => by have := HHB.out; omega) (Nat.le_refl _) (fun _ h => h.elim)
              exact HMM.out.new hbx
            clear hx hk k5j lpj r4 r5
            go_wp2_with fail
            go_meet
            exact ⟨la.A, cap, rfl, HSX.out.1, HSX.out.2⟩
        obtain ⟨A1, c1, rfl, hsk, hmk⟩ := hcut
        obtain ⟨wk, rfl⟩ : ∃ wk : World, wk = wc := ⟨_, rfl⟩
        have HSK := hid hsk
        have HMK := hid hmk
        have hkw := swire_any (HSK.out.get (i := 0) rfl).here HOK.out (by rw [HLL.out]; exact hnw12) q
        rw [← HWO.out] at hkw
        unfold WireV at hkw
        simp only [] at hkw
        rw [HNH.out] at hkw
        clear hsk hmk HSJ HSI2 HWJ HHB
        go_wp2_with fail
        refine hkw.mono ?_
        clear hkw
        rintro e wl ⟨A2, c2, rfl, hr2, hf2, hbl⟩
        have HRM := hid (hr2.alloc (.cells #[.slice A2 nh c2, .int .i64 hl] 73))
        have hsm := (HSK.out.new hbl).lay #[.slice A2 nh c2, .int .i64 hl] 73
        have HMM := hid ((HMK.out.new hbl).new ((Below.refl wl.heap.size wl).alloc (Nat.le_refl _) (.cells #[.slice A2 nh c2, .int .i64 hl] 73)))
        obtain ⟨wm, hwm⟩ : ∃ wm, wm = wl.alloc (.cells #[.slice A2 nh c2, .int .i64 hl] 73) := ⟨_, rfl⟩
        obtain ⟨ub, hub⟩ : ∃ ub, ub = wl.heap.size := ⟨_, rfl⟩
        rw [← hwm, ← hub] at hsm
        rw [← hwm] at HRM HMM
        have HSM := hid hsm
        clear hbl hr2 hf2 hsm HSK HMK
        go_upto_region 24 with fail
        rw [← hwm, ← hub]
        clear hwm hub
        have hes := error_same he wm (HG.out.new (HB2.out.trans (HSM.out.below.mono HB2.out.size)))
        go_wp2_with fail
        refine hes.mono ?_
        clear hes
        rintro e wn ⟨rfl, hbn⟩
        have HSN := hid (HSM.out.new hbn)
        have HRN := hid (HRM.out.new hbn)
        have HMN := hid (HMM.out.new hbn)
        clear hbn HSM HRM HMM
        have ht1 : wn.heap[hb]? = some (.cells #[.slice A1 nh c1, .int .i64 hl] 73 (0, 0)) := (HSN.out.get (i := 2) rfl).here
        have ht2 : wn.heap[ub]? = some (.cells #[.slice A2 nh c2, .int .i64 hl] 73 (0, 0)) := (HSN.out.get (i := 3) rfl).here
        have y0 := blk_cell ht1 0
        have y1 := blk_cell ht1 1
        have z0 := blk_cell ht2 0
        have z1 := blk_cell ht2 1
        simp at y0 y1 z0 z1
        have hltt := blk_lt ht1
        have hlts := blk_lt ht2
        have hfew : nh ≤ 1000 := by have := HMN.out.few; rw [← HNH.out]; exact this
        have hhs := held_same ⟨A2, c2, hi', hl⟩ ⟨A1, c1, hi', hl⟩ wn ⟨by simp only []; rw [HNH.out]; exact HRN.out.sl, by simp only []; rw [HNH.out]; exact HRN.out.le.1, by simp only []; rw [HNH.out]; exact hfew⟩ HMN.out
        rw [eqB_true (show Hm.val ⟨A2, c2, hi', hl⟩ = Hm.val ⟨A1, c1, hi', hl⟩ from rfl)] at hhs
        simp only [] at hhs
        rw [HNH.out] at hhs
        clear ht1 ht2
        go_wp2_with fail
        refine hhs.mono ?_
        clear hhs y0 y1 z0 z1 hltt hlts
        rintro e wp ⟨rfl, hbp⟩
        have HSP : Hid (Stand w2 wp [spreadT sb m.pl S' k', rkT mb m.pl N' k']) := (HSN.out.new hbp).few (us := [blkT hb _, conT ub _])
        clear hbp HRN HMN HSN HNH HWO
        go_wp2_with fail
        go_roundw
        case rel => exact ⟨i + 1, S', N', by omega, by go_num, by rw [HKE.out]; exact HSP.out⟩
        case measure => simp [intOf]; omega
      · have hex : n ≤ (i : Int) ∨ ((i : Int) < n ∧ i = 120) := by omega
        clear hin
        rcases hex with h1 | ⟨h1, rfl⟩
        all_goals
          go_wp2_with fail
          go_ret
          exact ⟨rfl, HBO.out⟩
  · have hnew := spread_bad (HF.out.new HB2.out) (HM.out.new HB2.out) he
    have hneb : (planChk m.pl != 0) = true := by simpa using he
    have hv := errV_pos he
    rw [HNN.out, HNS.out, HNW.out] at hnew
    generalize planChk m.pl = E at hnew hneb hv
    have HV := hid hv
    rw [hv] at hnew
    clear he hv
    go_wp2_with fail
    refine hnew.mono ?_
    clear hnew
    rintro e w3 ⟨rfl, hb3⟩
    have HB3 := hid (HB2.out.trans (hb3.mono HB2.out.size))
    clear hb3 x0 x1 x2 x3 hlx
    have hsame := error_same E w3 (HG.out.new HB3.out)
    rw [HV.out] at hsame
    go_wp2_with fail
    refine hsame.mono ?_
    clear hsame
    rintro e w4 ⟨rfl, hb4⟩
    go_wp2_with fail
    go_ret
    exact ⟨rfl, HB3.out.trans (hb4.mono HB3.out.size)⟩
end Go.Proofs.YtongkiccglaniaaDoor
