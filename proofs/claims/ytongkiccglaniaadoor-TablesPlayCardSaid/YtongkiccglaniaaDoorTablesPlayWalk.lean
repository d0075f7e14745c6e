/- The walk of framelaw2.TablesPlay: it returns true at every input. -/
import Derived.Test.YtongkiccglaniaaDoorTabNew
import Derived.Test.YtongkiccglaniaaDoorAloneMem
import Derived.Test.YtongkiccglaniaaDoorRSince
import Derived.Test.YtongkiccglaniaaDoorRPlanU
import Derived.Test.YtongkiccglaniaaDoorSameU
import Derived.Test.YtongkiccglaniaaDoorDoorU
import Derived.IntWalk
import Derived.StillTailTactics
import Derived.Deep.DeepCutAuto
import Derived.Deep.CutBlock
namespace Go.Proofs.YtongkiccglaniaaDoor
open Go.RowKit
set_option maxRecDepth 100000

/-- A block of the walk's own, that may be written. -/
theorem Stand.lab {w wr : World} {ts : List Tg} (h : Stand w wr ts) (cs : Array Value) (T : Nat) : Stand w (wr.alloc (.cells cs T)) (ts ++ [blkT wr.heap.size (.cells cs T (0, 0))]) := h.lab2 cs T
/-- The reference's kernel beside tables: its plan is the one that was given, with whatever spans. -/
theorem rtickBy_stand {w0 wr : World} {ts : List Tg} {i kb : Nat} {p p0 : Pl} {M : KM} {k : Kst} {B : Int} {y : Tl} (h : Stand w0 wr ts) (hi : ts[i]? = some (rkT kb p0 M k)) (hp : PlOk p) (hc : p0.code = p.code) (ht : p0.ticks = p.ticks) (hk : KOk p k B) (hB : B < 4611686018427387904) (hy : y.At wr) (hsp : ∀ s ∈ y.l, 0 ≤ s.room ∧ s.room < p.code.length) :
    Calls Tryd.prog 40 #[.pointer (some ⟨kb, 0, none⟩), .slice y.A y.l.length y.c] wr fun e w' => ∃ M', e = .returned (.agg #[.int .i64 (tickBy p y.l k).1.tick, .int .i64 (tickBy p y.l k).1.room, .int .i64 (tickBy p y.l k).1.pc, .int .i64 (tickBy p y.l k).1.what]) ∧ Stand w0 w' (ts.set i (rkT kb p0 M' (tickBy p y.l k).2)) := by
  have hk1 := (h.get hi).here
  refine (rtickBy_anyW wr kb M k p B y.A y.c y.l hp (by rw [hk1.2]; exact hc) (by rw [← ht, ← hk1.2]; rfl) hk hB hk1.1 hy.1 hy.2.1 hsp).mono ?_
  rintro e w' ⟨M', rfl, h1, h2, h3, h4⟩
  exact ⟨M', rfl, h.go i hi (k_went (h.get hi) h1 h2 h3 h4)⟩
theorem rnew_runW (w : World) (m : PM) (hm : PlanAt w m) (hn5 : m.ros.length ≤ 5) (hw12 : m.wires.length ≤ 12) :
    Calls Tryd.prog 34 #[.agg #[.slice m.A m.ros.length m.c, .int .i64 m.ticks, .slice m.sA m.spans.length m.sc, .slice m.wA m.wires.length m.wc]] w (RNewd w m) :=
  (rnew_anyW w m hm hn5 hw12).mono fun _ _ ⟨kb, M, h1, h2, h3, h4, h5⟩ => ⟨kb, M, h1, ⟨h2, by rw [h3], h4, h5⟩, h3⟩
theorem tab_chk_at {p : Pl} {ll : List (List Span)} (h4 : ¬ 4 < ll.length) (h5 : ¬ ll.length = 0) : tabChk p ll = tabFirst p ll := by
  unfold tabChk; rw [if_neg h4, if_neg h5]

set_option maxHeartbeats 8000000 in
theorem tablesPlay_walk {w : World} (hg : Handle w) (hf : Forms w) (m : PM) (hm : PlanAt w m) (A : Option Addr) (c : Nat) (ls : List Tl) (hs : Sl w A 1 ls.length (ls.flatMap Tl.cells)) (hsw : SlW A c ls.length) (hat : ∀ y ∈ ls, y.At w)
    (qA : Option Addr) (qc : Nat) (ss : List Int) (hq : Sl w qA 1 ss.length (ss.flatMap fun a => [.int .i64 a])) (hqw : SlW qA qc ss.length) (hqf : ∀ a ∈ ss, Fits a) (r : Int) (hz : ∀ y ∈ ls, y.l.length ≤ 5864062014634) :
    Calls Tryd.prog 11 #[.agg #[.slice m.A m.ros.length m.c, .int .i64 m.ticks, .slice m.sA m.spans.length m.sc, .slice m.wA m.wires.length m.wc], .slice A ls.length c, .slice qA ss.length qc, .int .i64 r] w fun e w' => e = .returned (.bool true) ∧ Below w.heap.size w w' := by
  have HG := hid hg
  have HF := hid hf
  have HM := hid hm
  have HS := hid hs
  have HAT := hid hat
  have HQ := hid hq
  have HQF := hid hqf
  have HPF := hid hm.lt
  have HTN : Hid (∀ w', Below w.heap.size w w' → Calls Tryd.prog 36 #[.agg #[.slice m.A m.ros.length m.c, .int .i64 m.ticks, .slice m.sA m.spans.length m.sc, .slice m.wA m.wires.length m.wc], .slice A ls.length c] w'
      fun e w'' => (tabChk m.pl (ls.map Tl.l) ≠ 0 → e = .returned (.tuple #[.pointer none, errV (tabChk m.pl (ls.map Tl.l))]) ∧ Below w'.heap.size w' w'') ∧ (tabChk m.pl (ls.map Tl.l) = 0 → TNewd w' m.pl (ls.map Tl.l) e w'')) :=
    fun w' hb => tab_new (hf.new hb) (hm.new hb) (hs.new hb) hsw (fun y hy => (hat y hy).new hb) hz
  have HRP : Hid (∀ (w' : World) (y : Tl), Below w.heap.size w w' → y.At w' → Calls Tryd.prog 23 #[.agg #[.slice m.A m.ros.length m.c, .int .i64 m.ticks, .slice y.A y.l.length y.c, .slice m.wA m.wires.length m.wc]] w' (TellV w' (planChk (m.pl.by y.l)))) :=
    fun w' y hb hy => rplan_any w' (m.by y.A y.c y.l) ((hm.new hb).by hy.1 hy.2.1 hy.2.2)
  obtain ⟨hsw1, hsw2, _⟩ := hsw
  obtain ⟨hqw1, hqw2, _⟩ := hqw
  unfold maxLen at hsw2 hqw2
  obtain ⟨E, hE⟩ : ∃ E, tabChk m.pl (ls.map Tl.l) = E := ⟨_, rfl⟩
  rw [hE] at HTN
  have HE := hid hE
  obtain ⟨w1, hw1⟩ : ∃ w1, w1 = w.alloc (.cells #[.slice m.A m.ros.length m.c, .int .i64 m.ticks, .slice m.sA m.spans.length m.sc, .slice m.wA m.wires.length m.wc] 31) := ⟨_, rfl⟩
  have hb1 : Below w.heap.size w w1 := by rw [hw1]; exact (Below.refl _ _).alloc (Nat.le_refl _) _
  have hbox : w1.heap[w.heap.size]? = some (.cells #[.slice m.A m.ros.length m.c, .int .i64 m.ticks, .slice m.sA m.spans.length m.sc, .slice m.wA m.wires.length m.wc] 31 (0, 0)) := by rw [hw1]; exact heap_alloc_new w _
  obtain ⟨nn, hnn⟩ : ∃ nn, m.ros.length = nn := ⟨_, rfl⟩
  obtain ⟨ns, hns⟩ : ∃ ns, m.spans.length = ns := ⟨_, rfl⟩
  obtain ⟨nw, hnw⟩ : ∃ nw, m.wires.length = nw := ⟨_, rfl⟩
  obtain ⟨nl, hnl⟩ : ∃ nl, ls.length = nl := ⟨_, rfl⟩
  obtain ⟨nss, hnq⟩ : ∃ nss, ss.length = nss := ⟨_, rfl⟩
  rw [hnn, hns, hnw, hnl] at HTN
  rw [hnn, hnw] at HRP
  rw [hnl] at hsw1
  rw [hnl] at HS
  rw [hnq] at hqw1
  rw [hnq] at HQ
  rw [hnn, hns, hnw] at hw1 hbox
  rw [hnn, hns, hnw, hnl, hnq]
  have HNN := hid hnn
  have HNS := hid hns
  have HNW := hid hnw
  have HNL := hid hnl
  have HNQ := hid hnq
  have HB1 := hid hb1
  have HXS : Hid (∀ w', Below w1.heap.size w1 w' → w'.cell? ⟨w.heap.size, 0, none⟩ = some (.slice m.A nn m.c) ∧ w'.cell? ⟨w.heap.size, 1, none⟩ = some (.int .i64 m.ticks) ∧ w'.cell? ⟨w.heap.size, 2, none⟩ = some (.slice m.sA ns m.sc) ∧ w'.cell? ⟨w.heap.size, 3, none⟩ = some (.slice m.wA nw m.wc) ∧ w.heap.size < w'.heap.size) := fun w' hb => by
    have h := (hb.block _ (blk_lt hbox)).trans hbox
    exact ⟨blk_cell h 0, blk_cell h 1, blk_cell h 2, blk_cell h 3, blk_lt h⟩
  clear hg hf hm hb1 hbox hs hat hq hqf hz hE hnn hns hnw hnl hnq
  go_enter Tryd.func11, Tryd.ntmps11
  go_upto_region 1 with fail
  rw [← hw1]
  clear hw1
  go_upto_if 26 with fail
  go_cut [9] (fun v9 wx => ∃ e : Int, v9 = .int .i64 e ∧ wx = w1 ∧ ((e = 4 ∧ 4 < nl) ∨ (e = 5 ∧ nl = 0) ∨ (e = 0 ∧ 0 < nl ∧ nl ≤ 4)))
  case first =>
    as_aux_lemma =>
    by_cases h4 : 4 < nl
    · have hd4 : decide (4 < (nl : Int)) = true := decide_eq_true (by omega)
      go_wp2_with fail
      go_meet
      exact ⟨4, rfl, rfl, .inl ⟨rfl, h4⟩⟩
    · have hd4 : decide (4 < (nl : Int)) = false := decide_eq_false (by omega)
      by_cases h5 : nl = 0
      · subst h5
        clear h4 hd4
        go_wp2_with fail
        go_meet
        exact ⟨5, rfl, rfl, .inr (.inl ⟨rfl, by first | rfl | trivial⟩)⟩
      · have hd5 : ((nl : Int) == 0) = false := beq_false_of_ne (by omega)
        go_wp2_with fail
        go_meet
        exact ⟨0, rfl, rfl, .inr (.inr ⟨rfl, by omega, by omega⟩)⟩
  obtain ⟨e0, rfl, rfl, hcase⟩ := hcut
  obtain ⟨w1, rfl⟩ : ∃ w' : World, w' = wc := ⟨_, rfl⟩
  have HCS := hid hcase
  clear hcase
  go_upto_block 0 with fail
  go_cut [9] (fun v9 wx => v9 = .int .i64 E ∧ Below w1.heap.size w1 wx)
  case first =>
    as_aux_lemma =>
    go_wp2_with fail
    go_loopw [9, 10] (fun v9 v10 wr => ∃ (i : Nat) (e : Int), i ≤ nl ∧ v9 = .int .i64 e ∧ v10 = .int .i64 i ∧ Below w1.heap.size w1 wr ∧ ((e ≠ 0 ∧ e = E) ∨ (e = 0 ∧ 0 < nl ∧ nl ≤ 4 ∧ ∀ j x, j < i → (ls.map Tl.l)[j]? = some x → planChk (m.pl.by x) = 0))) (fun _ v10 _ => nl - (intOf v10).toNat)
    case atStart =>
      refine ⟨0, e0, by omega, rfl, rfl, Below.refl _ _, ?_⟩
      have h := HE.out
      unfold tabChk at h
      rw [List.length_map, HNL.out] at h
      rcases HCS.out with ⟨rfl, h4⟩ | ⟨rfl, h5⟩ | ⟨rfl, h6, h7⟩
      · rw [if_pos h4] at h; exact .inl ⟨by decide, h⟩
      · rw [if_neg (by omega), if_pos h5] at h; exact .inl ⟨by decide, h⟩
      · exact .inr ⟨rfl, h6, h7, fun j x hj => by omega⟩
    case round =>
      obtain ⟨wo, rfl⟩ : ∃ wo : World, wo = wr := ⟨_, rfl⟩
      obtain ⟨i, e, hil, rfl, rfl, hb, hor⟩ := hrel
      have HB := hid hb
      have HOR := hid hor
      have HW := hid (HB1.out.trans (hb.mono HB1.out.size))
      obtain ⟨x0, x1, x2, x3, hlx⟩ := HXS.out _ hb
      clear hb
      by_cases hin : i < nl
      · rcases hor with ⟨hne, rfl⟩ | ⟨rfl, h0, h4, hall⟩
        · have hd : (e == 0) = false := beq_false_of_ne hne
          clear hne
          go_wp2_with fail
          go_meet
          exact ⟨rfl, HB.out⟩
        · have HALL := hid hall
          have hi2 : i < ls.length := by rw [HNL.out]; exact hin
          have hget := List.getElem?_eq_getElem hi2
          have hym := List.getElem_mem hi2
          obtain ⟨lb, lo, rfl, hlb, hlx2⟩ := HS.out.2 (by omega)
          have hcell := flatMap_get Tl.cells 1 Tl.len ls i 0 _ hget (by decide)
          rw [Nat.mul_one, Nat.add_zero] at hcell
          replace hcell := hlx2 i _ (hcell.trans rfl)
          generalize ls[i] = y at hget hym hcell
          have HYAT := hid (HAT.out y hym)
          have HGET := hid hget
          have hwy : ∀ w', Below w.heap.size w w' → w'.cell? ⟨lb, lo + i, none⟩ = some (.slice y.A y.l.length y.c) ∧ lb < w'.heap.size := fun w' hb => ⟨(hb.cell (p := ⟨lb, lo + i, none⟩) hlb).trans hcell, by have := hb.size; omega⟩
          obtain ⟨wq, hwq⟩ : ∃ wq, wq = wo.alloc (.cells #[.slice m.A nn m.c, .int .i64 m.ticks, .slice m.sA ns m.sc, .slice m.wA nw m.wc] 31) := ⟨_, rfl⟩
          obtain ⟨qb, hqb⟩ : ∃ qb, qb = wo.heap.size := ⟨_, rfl⟩
          have hq4 : wq.heap[qb]? = some (.cells #[.slice m.A nn m.c, .int .i64 m.ticks, .slice m.sA ns m.sc, .slice m.wA nw m.wc] 31 (0, 0)) := by rw [hwq, hqb]; exact heap_alloc_new wo _
          have hbq : Below wo.heap.size wo wq := by rw [hwq]; exact (Below.refl _ _).alloc (Nat.le_refl _) _
          obtain ⟨w5, hw5⟩ : ∃ w5, w5 = wq.setCell ⟨qb, 2, none⟩ (.slice y.A y.l.length y.c) := ⟨_, rfl⟩
          have hq5 : w5.heap[qb]? = some (.cells #[.slice m.A nn m.c, .int .i64 m.ticks, .slice y.A y.l.length y.c, .slice m.wA nw m.wc] 31 (0, 0)) := by rw [hw5]; exact (blk_set hq4 2 _).trans rfl
          have hb5 : Below wo.heap.size wo w5 := by rw [hw5]; exact hbq.setCell (by show wo.heap.size ≤ qb; omega) _
          have HB5 := hid hb5
          have HQ5 := hid hq5
          obtain ⟨hy1, hy2⟩ := hwy _ (HW.out.trans (hbq.mono HW.out.size))
          have z2 := blk_cell hq4 2
          have zf := blk_free hq4 2
          have hlz := blk_lt hq4
          simp at z2
          clear hget hym hcell hlx2 hi2 hall hq4 hq5 hbq hwy hb5
          go_upto_region 10 with fail
          rw [← hwq, ← hqb]
          clear hwq hqb x0 x1 x2 x3 hlx
          go_upto_region 11 with fail
          rw [← hw5]
          clear hw5 z2 zf hlz hy1 hy2
          have z0 := blk_cell HQ5.out 0
          have z1 := blk_cell HQ5.out 1
          have z2 := blk_cell HQ5.out 2
          have z3 := blk_cell HQ5.out 3
          have hlz := blk_lt HQ5.out
          simp at z0 z1 z2 z3
          have HW5 := hid (HW.out.trans (HB5.out.mono HW.out.size))
          have hrp := HRP.out w5 y HW5.out (HYAT.out.new HW5.out)
          unfold TellV at hrp
          go_wp2_with fail
          refine hrp.mono ?_
          clear hrp z0 z1 z2 z3 hlz
          rintro e w6 ⟨rfl, hb6⟩
          have HB6 := hid (HB.out.trans ((HB5.out.trans (hb6.mono HB5.out.size)).mono HB.out.size))
          clear hb6
          obtain ⟨P, hP⟩ : ∃ P, planChk (m.pl.by y.l) = P := ⟨_, rfl⟩
          rw [hP]
          have HP := hid hP
          clear hP
          go_wp2_with fail
          go_roundw
          case rel =>
            refine ⟨i + 1, P, by omega, rfl, by go_num, HB6.out, ?_⟩
            by_cases hp0 : P = 0
            · refine .inr ⟨hp0, h0, h4, fun j x hj hx => ?_⟩
              by_cases hji : j < i
              · exact HALL.out j x hji hx
              · obtain rfl : j = i := by omega
                rw [List.getElem?_map, HGET.out] at hx
                simp at hx
                subst hx
                rw [HP.out]; exact hp0
            · refine .inl ⟨hp0, ?_⟩
              rw [← HE.out, tab_chk_at (by rw [List.length_map, HNL.out]; omega) (by rw [List.length_map, HNL.out]; omega), ← HP.out]
              exact (tab_first_at (p := m.pl) (ls.map Tl.l) i y.l (by rw [List.getElem?_map, HGET.out]; rfl) HALL.out (by rw [HP.out]; exact hp0)).symm
          case measure => simp [intOf]; omega
      · obtain rfl : nl = i := by omega
        have hee : e = E := by
          rcases hor with ⟨_, h⟩ | ⟨rfl, h0, h4, hall⟩
          · exact h
          · rw [← HE.out, tab_chk_at (by rw [List.length_map, HNL.out]; omega) (by rw [List.length_map, HNL.out]; omega)]
            refine (tab_first_none _ fun s hs => ?_).symm
            obtain ⟨j, hj⟩ := List.mem_iff_getElem?.1 hs
            exact hall j s (by have := (List.getElem?_eq_some_iff.1 hj).1; rw [List.length_map, HNL.out] at this; exact this) hj
        subst hee
        clear hor
        go_wp2_with fail
        go_meet
        exact ⟨rfl, HB.out⟩
  obtain ⟨rfl, hb2⟩ := hcut
  obtain ⟨w2, rfl⟩ : ∃ w2 : World, w2 = wc := ⟨_, rfl⟩
  have HXB := hid hb2
  have HB2 := hid (HB1.out.trans (hb2.mono HB1.out.size))
  clear hb2 HCS
  obtain ⟨x0, x1, x2, x3, hlx⟩ := HXS.out _ HXB.out
  go_wp2_with fail
  refine (HTN.out _ HB2.out).mono ?_
  clear x0 x1 x2 x3 hlx HTN HRP
  rintro e w3 ⟨hbad, hgood⟩
  by_cases hE0 : E = 0
  · obtain ⟨tb, tk, T3, s0, hs0, rfl, hst⟩ := hgood hE0
    have HS3 := hid hst
    have HS0 := hid hs0
    have HTR : Hid (TRight (m.pl.by s0) (ls.map Tl.l)) := tab_right (HE.out.trans hE0) hs0
    clear hst hbad hgood hs0
    subst hE0
    go_wp2_with fail
    have hsame := error_same 0 w3 (HG.out.new (HB2.out.trans (HS3.out.below.mono HB2.out.size)))
    rw [errV_zero] at hsame
    refine hsame.mono ?_
    clear hsame
    rintro e w4 ⟨rfl, hb4⟩
    have HS4 := hid (HS3.out.new hb4)
    clear hb4 HS3
    obtain ⟨x0, x1, x2, x3, hlx⟩ := HXS.out _ (HXB.out.trans (HS4.out.below.mono HXB.out.size))
    have HLC : Hid (m.pl.code.length = nn) := by show m.pl.code.length = nn; rw [← HNN.out]; simp [PM.pl]
    have HLW : Hid (m.pl.wires.length = nw) := HNW.out
    have hnn5 : nn ≤ 5 := by have := HTR.out.plan.most5; rw [← HLC.out]; exact this
    have hnw12 : nw ≤ 12 := by have := wires_few HTR.out.plan; rw [← HLW.out]; exact this
    have HLL : Hid ((ls.map Tl.l).length = nl) := by show (ls.map Tl.l).length = nl; rw [List.length_map, HNL.out]
    have hl0 : 0 < nl := by rw [← HLL.out]; exact HTR.out.some
    have hl4 : nl ≤ 4 := by rw [← HLL.out]; exact HTR.out.most
    have hnew := rnew_runW w4 m (HM.out.new (HB2.out.trans (HS4.out.below.mono HB2.out.size))) (by rw [HNN.out]; exact hnn5) (by rw [HNW.out]; exact hnw12)
    unfold RNewd at hnew
    rw [HNN.out, HNS.out, HNW.out] at hnew
    go_wp2_with fail
    refine hnew.mono ?_
    clear hnew x0 x1 x2 x3 hlx
    rintro e w5 ⟨mb, N5, rfl, hr5, hP5⟩
    have HS5 : Hid (Stand w2 w5 [tabT tb tk (m.pl.by s0) (ls.map Tl.l) T3 ⟨kNew m.pl, 0, 0⟩, rkT mb m.pl N5 (kNew m.pl)]) := Stand.addR HS4.out hr5 fun j hj => by rw [hP5] at hj; exact Nat.lt_of_lt_of_le (HPF.out j hj) HB2.out.size
    clear hr5 hP5 HS4
    obtain ⟨lb, lo, rfl, hlb, hlx⟩ := HS.out.2 hl0
    have HLX := hid hlx
    have htick := frameChk_ticks HTR.out.plan.frame
    have htk0 : 1 ≤ m.ticks := htick.1
    have htk1 : m.ticks ≤ 40 := htick.2.1
    clear hlx htick
    go_wp2_with fail
    go_loopw [16, 17, 18] (fun v16 v17 v18 wr => ∃ (i now next : Nat) (T : TM) (N : KM) (k : Kst) (B : Int), i ≤ 120 ∧ i ≤ nss ∧ v16 = .int .i64 now ∧ v17 = .int .i64 next ∧ v18 = .int .i64 i ∧ TOk (m.pl.by s0) (ls.map Tl.l) ⟨k, now, next⟩ B ∧ B ≤ i ∧ Stand w2 wr [tabT tb tk (m.pl.by s0) (ls.map Tl.l) T ⟨k, now, next⟩, rkT mb m.pl N k]) (fun _ _ v18 _ => 120 - (intOf v18).toNat)
    case atStart => exact ⟨0, 0, 0, T3, N5, kNew m.pl, 0, by omega, by omega, rfl, rfl, rfl, tNew_ok HTR.out, by omega, HS5.out⟩
    case round =>
      obtain ⟨wo, rfl⟩ : ∃ wo : World, wo = wr := ⟨_, rfl⟩
      obtain ⟨i, now, next, T, N, k, B, hi, hiq, rfl, rfl, rfl, htok, hB, hst⟩ := hrel
      have HSR := hid hst
      have HTO := hid htok
      have HBO := hid (HB2.out.trans (hst.below.mono HB2.out.size))
      have HBI := hid hB
      clear hst htok HS5 hB
      by_cases hin : i < nss ∧ i < 120
      · obtain ⟨hin, h120⟩ := hin
        have h120' : (i : Int) < 120 := by omega
        have hi2 : i < ss.length := by rw [HNQ.out]; exact hin
        have hget := List.getElem?_eq_getElem hi2
        obtain ⟨qb, qo, rfl, hqb, hqx⟩ := HQ.out.2 (by omega)
        have hcell := flatMap_get (fun a : Int => [Value.int .i64 a]) 1 (fun _ => rfl) ss i 0 _ hget (by decide)
        rw [Nat.mul_one, Nat.add_zero] at hcell
        replace hcell := hqx i _ (hcell.trans rfl)
        have hvf := HQF.out _ (List.getElem_mem hi2)
        unfold Fits at hvf
        generalize ss[i] = v at hcell hvf
        have HSV : Hid (∀ w', Below w2.heap.size w2 w' → w'.cell? ⟨qb, qo + i, none⟩ = some (.int .i64 v) ∧ qb < w'.heap.size) := fun w' hb => by
          have hb' := HB2.out.trans (hb.mono HB2.out.size)
          exact ⟨(hb'.cell (p := ⟨qb, qo + i, none⟩) hqb).trans hcell, by have := hb'.size; omega⟩
        clear hget hqx hcell hi2
        obtain ⟨g0, g1⟩ := HSV.out _ HSR.out.below
        go_upto_if 80 with fail
        clear g0 g1
        go_cut [14, 16, 17] (fun v14 v16 v17 wx => ∃ (now' next' : Nat) (T' : TM) (N' : KM) (k' : Kst) (B' : Int), v14 = .bool true ∧ v16 = .int .i64 now' ∧ v17 = .int .i64 next' ∧ TOk (m.pl.by s0) (ls.map Tl.l) ⟨k', now', next'⟩ B' ∧ B' ≤ (i + 1 : Nat) ∧ Stand w2 wx [tabT tb tk (m.pl.by s0) (ls.map Tl.l) T' ⟨k', now', next'⟩, rkT mb m.pl N' k'])
        case first =>
          as_aux_lemma =>
          by_cases hv0 : 0 < v
          · have hdv : decide (0 < v) = true := decide_eq_true hv0
            have hask := task_stand (i := 0) HSR.out rfl HTR.out.most (v - 1)
            have HASK := hid hask
            have hwv : IntKind.i64.wrap (v - 1) = v - 1 := IntWalk.i64_in _ (by omega)
            obtain ⟨g0, g1⟩ := HSV.out _ HSR.out.below
            clear hask
            by_cases hvn : (nl : Int) < v
            · have hdn : decide ((nl : Int) < v) = true := decide_eq_true hvn
              have e1 : askErr (ls.map Tl.l) (v - 1) = 1 := by
                unfold askErr inB
                rw [HLL.out, if_neg (by simp; omega)]
              have e2 : tAsk (ls.map Tl.l) ⟨k, now, next⟩ (v - 1) = ⟨k, now, next⟩ := by
                unfold tAsk inB
                rw [HLL.out, if_neg (by simp; omega)]
              rw [e1, e2] at HASK
              clear e1 e2
              go_wp2_with fail
              refine HASK.out.mono ?_
              clear g0 g1
              rintro e w6 ⟨rfl, hst⟩
              have HS6 := hid hst
              have hes := error_same 1 w6 (HG.out.new (HB2.out.trans (hst.below.mono HB2.out.size)))
              clear hst
              go_wp2_with fail
              refine hes.mono ?_
              clear hes
              rintro e w7 ⟨rfl, hb7⟩
              have HS7 := hid (HS6.out.new hb7)
              clear hb7
              go_wp2_with fail
              go_meet
              exact ⟨now, next, T, N, k, B, rfl, rfl, rfl, HTO.out, by have := HBI.out; omega, HS7.out⟩
            · have hdn : decide ((nl : Int) < v) = false := decide_eq_false hvn
              have e1 : askErr (ls.map Tl.l) (v - 1) = 0 := by
                unfold askErr inB
                rw [HLL.out, if_pos (by simp; omega)]
              have e2 : tAsk (ls.map Tl.l) ⟨k, now, next⟩ (v - 1) = ⟨k, now, (v - 1).toNat⟩ := by
                unfold tAsk inB
                rw [HLL.out, if_pos (by simp; omega)]
              have hto2 := tAsk_ok HTO.out (v - 1)
              rw [e2] at hto2
              have HTO2 := hid hto2
              rw [e1, e2, errV_zero] at HASK
              have HV1 : Hid (((v - 1).toNat : Int) = v - 1) := by show ((v - 1).toNat : Int) = v - 1; omega
              clear e1 e2 hto2
              go_wp2_with fail
              refine HASK.out.mono ?_
              clear g0 g1
              rintro e w6 ⟨rfl, hst⟩
              have HS6 := hid hst
              have hes := error_same 0 w6 (HG.out.new (HB2.out.trans (hst.below.mono HB2.out.size)))
              rw [errV_zero] at hes
              clear hst
              go_wp2_with fail
              refine hes.mono ?_
              clear hes
              rintro e w7 ⟨rfl, hb7⟩
              have HS7 := hid (HS6.out.new hb7)
              clear hb7
              go_wp2_with fail
              go_meet
              exact ⟨now, (v - 1).toNat, T, N, k, B, rfl, rfl, by rw [HV1.out], HTO2.out, by have := HBI.out; omega, HS7.out⟩
          · have hdv : v ≤ 0 := by omega
            clear hv0
            obtain ⟨R, hR⟩ : ∃ R, tNow (m.pl.by s0) ⟨k, now, next⟩ = R := ⟨_, rfl⟩
            have HR := hid hR
            clear hR
            go_upto_region 28 with fail
            obtain ⟨x0, x1, x2, x3, hlx⟩ := HXS.out _ (HXB.out.trans (HSR.out.below.mono HXB.out.size))
            have hkk := (HSR.out.get (i := 1) rfl).here.1
            obtain ⟨_, _, _, _, _, k6, _, hmb⟩ := hkk.cells
            have ht0 := HTO.out.k.time0
            have htB := HTO.out.k.timeB
            have hBI := HBI.out
            have hq1 : Int.tmod k.time m.ticks = k.time % m.ticks := Int.tmod_eq_emod_of_nonneg ht0
            have hq2 : 0 ≤ k.time % m.ticks := Int.emod_nonneg _ (by omega)
            have hq3 : k.time % m.ticks < m.ticks := Int.emod_lt_of_pos _ (by omega)
            obtain ⟨Bz, hBz⟩ : ∃ Bz : Bool, (k.time % m.ticks == 0) = Bz := ⟨_, rfl⟩
            have hnow2 : R = if Bz = true then next else now := by
              rw [← hBz, ← HR.out]
              unfold tNow
              show (if k.time % m.ticks = 0 then next else now) = _
              by_cases h : k.time % m.ticks = 0
              · rw [if_pos h, if_pos (by simpa using h)]
              · rw [if_neg h, if_neg (by simpa using h)]
            have HNOW2 := hid hnow2
            generalize hM : k.time % m.ticks = M at hq1 hq2 hq3 hBz
            generalize hTM : k.time = tm at hq1 k6
            have htk0' : ¬ m.ticks = 0 := by omega
            have hwr : IntKind.i64.wrap M = M := IntWalk.i64_in _ (by omega)
            clear hM hTM ht0 htB hBI hq2 hq3 hnow2 hkk
            go_quiet (fail)
            obtain ⟨wq, hwq⟩ : ∃ wq, wq = wo.drewN nq := ⟨_, rfl⟩
            have HSQ0 : Hid (Stand w2 wq [tabT tb tk (m.pl.by s0) (ls.map Tl.l) T ⟨k, now, next⟩, rkT mb m.pl N k]) := by rw [hwq]; exact HSR.out.new ⟨rfl, rfl, rfl, Nat.le_refl _, fun _ _ => rfl⟩
            rw [← hwq]
            clear hwq x0 x1 x2 x3 hlx k6 hmb hq1 hwr htk0'
            go_upto_if 109 with fail
            go_cut [16] (fun v16 wx => v16 = .int .i64 R ∧ wx = wq)
            case first =>
              as_aux_lemma =>
              cases Bz with
              | true =>
                have hr := HNOW2.out
                rw [if_pos rfl] at hr
                subst hr
                go_wp2_with fail
                go_meet
                exact ⟨rfl, rfl⟩
              | false =>
                have hr := HNOW2.out
                rw [if_neg (by decide)] at hr
                subst hr
                go_wp2_with fail
                go_meet
                exact ⟨rfl, rfl⟩
            obtain ⟨rfl, rfl⟩ := hcut
            obtain ⟨wq, rfl⟩ : ∃ w' : World, w' = wc := ⟨_, rfl⟩
            have HSQ := hid (HSQ0.out.new (Below.refl _ _).drew)
            clear HSQ0 HSR
            have hRl := tNow_lt HTO.out
            rw [HR.out, List.length_map] at hRl
            have hget := List.getElem?_eq_getElem hRl
            have hym := List.getElem_mem hRl
            have hcell := flatMap_get Tl.cells 1 Tl.len ls R 0 _ hget (by decide)
            rw [Nat.mul_one, Nat.add_zero] at hcell
            replace hcell := HLX.out R _ (hcell.trans rfl)
            rw [HNL.out] at hRl
            generalize ls[R] = y at hget hym hcell
            have HYAT := hid (HAT.out y hym)
            have HSL : Hid (∀ w', Below w2.heap.size w2 w' → w'.cell? ⟨lb, lo + R, none⟩ = some (.slice y.A y.l.length y.c)) := fun w' hb => ((HB2.out.trans (hb.mono HB2.out.size)).cell (p := ⟨lb, lo + R, none⟩) hlb).trans hcell
            have hgy : (ls.map Tl.l)[R]? = some y.l := by rw [List.getElem?_map, hget]; rfl
            have hsp := tab_spans HTR.out (List.mem_of_getElem? hgy)
            have hqq : tTick (m.pl.by s0) (ls.map Tl.l) ⟨k, now, next⟩ = ((tickBy (m.pl.by s0) y.l k).1, ⟨(tickBy (m.pl.by s0) y.l k).2, R, next⟩) := by
              unfold tTick; rw [HR.out, List.getD_eq_getElem?_getD, hgy, Option.getD_some]
            have htok2 := tTick_ok HTR.out HTO.out
            have hB4 : B < 4611686018427387904 := by have := HBI.out; omega
            have htk := ttick_stand (i := 0) HSQ.out rfl HTR.out HTO.out hB4
            rw [hqq] at htk htok2
            obtain ⟨q', hq'⟩ : ∃ q, q = tickBy (m.pl.by s0) y.l k := ⟨_, rfl⟩
            have HKT : Hid (∀ (w' : World) (T' : TM), Stand w2 w' [tabT tb tk (m.pl.by s0) (ls.map Tl.l) T' ⟨q'.2, R, next⟩, rkT mb m.pl N k] → Calls Tryd.prog 40 #[.pointer (some ⟨mb, 0, none⟩), .slice y.A y.l.length y.c] w' fun e w'' => ∃ N', e = .returned (.agg #[.int .i64 q'.1.tick, .int .i64 q'.1.room, .int .i64 q'.1.pc, .int .i64 q'.1.what]) ∧ Stand w2 w'' [tabT tb tk (m.pl.by s0) (ls.map Tl.l) T' ⟨q'.2, R, next⟩, rkT mb m.pl N' q'.2]) := fun w' T' h => by
              rw [hq'] at h ⊢
              exact rtickBy_stand (i := 1) h rfl HTR.out.plan rfl rfl HTO.out.k hB4 (HYAT.out.new (HB2.out.trans (h.below.mono HB2.out.size))) hsp
            rw [← hq'] at htk htok2
            have HTOK2 := hid htok2
            obtain ⟨⟨e1, e2, e3, e4⟩, k'⟩ := q'
            simp only [] at htk HKT HTOK2
            have HTK := hid htk
            have hne : ∀ w, (binOp .eql 34 (.agg #[.int .i64 e1, .int .i64 e2, .int .i64 e3, .int .i64 e4]) (.agg #[.int .i64 e1, .int .i64 e2, .int .i64 e3, .int .i64 e4])).run Tryd.prog w = .ok (.bool true) w := fun w => event_eql ⟨e1, e2, e3, e4⟩ w
            have hge := event_guard
            have HB := hid HSQ.out.below
            have hc4 := hsw1
            clear hget hym hcell hsp hgy hqq htok2 htk hq' hdv
            generalize y.l.length = yn at HSL HKT
            generalize y.A = yA at HSL HKT
            generalize y.c = yc at HSL HKT
            go_upto_region 30 with fail
            go_region_held3 (fun w' => w'.cell? ⟨lb, lo + R, none⟩ = some (.slice yA yn yc))
              (exact HSL.out _ HB.out)
              (first | (go_at_call 38; refine HTK.out.mono ?_; rintro e w9 ⟨T', rfl, hst⟩; have HS9 := hid hst; replace HB := hid hst.below; clear hst) | (go_at_call 40; refine (HKT.out _ T' HS9.out).mono ?_; rintro e w10 ⟨N', rfl, hst⟩; have HS10 := hid hst; replace HB := hid hst.below; clear hst))
            all_goals
              go_wp2_with fail
              go_meet
              exact ⟨R, next, T', N', k', B + 1, rfl, rfl, rfl, HTOK2.out, by have := HBI.out; omega, HS10.out⟩
        obtain ⟨now', next', T', N', k', B', rfl, rfl, rfl, hto', hB', hst'⟩ := hcut
        obtain ⟨wd, rfl⟩ : ∃ w' : World, w' = wc := ⟨_, rfl⟩
        have HSD := hid hst'
        have HTO' := hid hto'
        replace HBI := hid hB'
        have HIN := hid hin
        clear hst' hto' hB' HSR HTO HBO HSV hvf hin
        have HRL : Hid (k'.rooms.length = nn) := by show k'.rooms.length = nn; exact HTO'.out.k.rooms.trans HLC.out
        obtain ⟨R, hR⟩ : ∃ R, tNow (m.pl.by s0) ⟨k', now', next'⟩ = R := ⟨_, rfl⟩
        have HR := hid hR
        clear hR
        go_upto_region 32 with fail
        obtain ⟨x0, x1, x2, x3, hlx⟩ := HXS.out _ (HXB.out.trans (HSD.out.below.mono HXB.out.size))
        have hkk := (HSD.out.get (i := 1) rfl).here.1
        obtain ⟨_, _, _, _, _, k6, _, hmb⟩ := hkk.cells
        have ht0 := HTO'.out.k.time0
        have htB := HTO'.out.k.timeB
        have hBI := HBI.out
        have hq1 : Int.tmod k'.time m.ticks = k'.time % m.ticks := Int.tmod_eq_emod_of_nonneg ht0
        have hq2 : 0 ≤ k'.time % m.ticks := Int.emod_nonneg _ (by omega)
        have hq3 : k'.time % m.ticks < m.ticks := Int.emod_lt_of_pos _ (by omega)
        obtain ⟨Bz, hBz⟩ : ∃ Bz : Bool, (k'.time % m.ticks == 0) = Bz := ⟨_, rfl⟩
        have hnow2 : R = if Bz = true then next' else now' := by
          rw [← hBz, ← HR.out]
          unfold tNow
          show (if k'.time % m.ticks = 0 then next' else now') = _
          by_cases h : k'.time % m.ticks = 0
          · rw [if_pos h, if_pos (by simpa using h)]
          · rw [if_neg h, if_neg (by simpa using h)]
        have HNOW2 := hid hnow2
        generalize hM : k'.time % m.ticks = M at hq1 hq2 hq3 hBz
        generalize hTM : k'.time = tm at hq1 k6
        have htk0' : ¬ m.ticks = 0 := by omega
        have hwr : IntKind.i64.wrap M = M := IntWalk.i64_in _ (by omega)
        clear hM hTM ht0 htB hBI hq2 hq3 hnow2 hkk
        go_quiet (fail)
        obtain ⟨wq, hwq⟩ : ∃ wq, wq = wd.drewN nq := ⟨_, rfl⟩
        have HSQ : Hid (Stand w2 wq [tabT tb tk (m.pl.by s0) (ls.map Tl.l) T' ⟨k', now', next'⟩, rkT mb m.pl N' k']) := by rw [hwq]; exact HSD.out.new ⟨rfl, rfl, rfl, Nat.le_refl _, fun _ _ => rfl⟩
        rw [← hwq]
        clear hwq x0 x1 x2 x3 hlx k6 hmb hq1 hwr htk0'
        go_upto_if 128 with fail
        go_cut [19] (fun v19 wx => v19 = .int .i64 R ∧ wx = wq)
        case first =>
          as_aux_lemma =>
          cases Bz with
          | true =>
            have hr := HNOW2.out
            rw [if_pos rfl] at hr
            subst hr
            go_wp2_with fail
            go_meet
            exact ⟨rfl, rfl⟩
          | false =>
            have hr := HNOW2.out
            rw [if_neg (by decide)] at hr
            subst hr
            go_wp2_with fail
            go_meet
            exact ⟨rfl, rfl⟩
        obtain ⟨rfl, rfl⟩ := hcut
        obtain ⟨wq, rfl⟩ : ∃ w' : World, w' = wc := ⟨_, rfl⟩
        clear HSD
        have HSE := hid (HSQ.out.lab #[.int .i64 0, .int .i64 0, .int .i64 0, .int .i64 0, .int .i64 0, .int .i64 0, .int .i64 0, .bool false] 40)
        obtain ⟨we, hwe⟩ : ∃ we, we = wq.alloc (.cells #[.int .i64 0, .int .i64 0, .int .i64 0, .int .i64 0, .int .i64 0, .int .i64 0, .int .i64 0, .bool false] 40) := ⟨_, rfl⟩
        obtain ⟨ob, hob⟩ : ∃ ob, ob = wq.heap.size := ⟨_, rfl⟩
        rw [← hwe, ← hob] at HSE
        go_upto_region 36 with fail
        rw [← hwe, ← hob]
        clear hwe hob HSQ
        obtain ⟨x0, x1, x2, x3, hlx⟩ := HXS.out _ (HXB.out.trans (HSE.out.below.mono HXB.out.size))
        go_cut [138] (fun v wx => v = .bool (!inB r nn) ∧ wx = we)
        case first =>
          as_aux_lemma =>
          by_cases h1 : r < 0
          · have hi1 : inB r nn = false := by unfold inB; exact decide_eq_false (by omega)
            have hd1 : decide (r < 0) = true := decide_eq_true h1
            go_wp2_with fail
            go_meet
            exact ⟨by rw [hi1]; rfl, rfl⟩
          · have hd1 : decide (r < 0) = false := decide_eq_false h1
            by_cases h2 : (nn : Int) ≤ r
            · have hi1 : inB r nn = false := by unfold inB; exact decide_eq_false (by omega)
              have hd2 : decide ((nn : Int) ≤ r) = true := decide_eq_true h2
              go_wp2_with fail
              go_meet
              exact ⟨by rw [hi1]; rfl, rfl⟩
            · have hi1 : inB r nn = true := by unfold inB; exact decide_eq_true (by omega)
              have hd2 : decide ((nn : Int) ≤ r) = false := decide_eq_false h2
              go_wp2_with fail
              go_meet
              exact ⟨by rw [hi1]; rfl, rfl⟩
        obtain ⟨rfl, rfl⟩ := hcut
        obtain ⟨we, rfl⟩ : ∃ we : World, we = wc := ⟨_, rfl⟩
        clear x0 x1 x2 x3 hlx
        obtain ⟨z, hst⟩ : ∃ z : St × Int, z = stateOf k' r := ⟨_, rfl⟩
        obtain ⟨⟨sp, s0', s1, s2, s3, s4, s5, sf⟩, se⟩ := z
        have HST := hid hst
        clear hst
        go_upto_if 138 with fail
        go_cut [9] (fun v9 wx => v9 = .int .i64 se ∧ Stand w2 wx [tabT tb tk (m.pl.by s0) (ls.map Tl.l) T' ⟨k', now', next'⟩, rkT mb m.pl N' k', blkT ob (.cells #[.int .i64 sp, .int .i64 s0', .int .i64 s1, .int .i64 s2, .int .i64 s3, .int .i64 s4, .int .i64 s5, .bool sf] 40 (0, 0))])
        case first =>
          as_aux_lemma =>
          cases hin : inB r nn with
          | false =>
            have hq := HST.out
            unfold stateOf at hq
            rw [HRL.out, hin, if_neg (by decide)] at hq
            simp only [St.zero, Prod.mk.injEq, St.mk.injEq] at hq
            obtain ⟨⟨rfl, rfl, rfl, rfl, rfl, rfl, rfl, rfl⟩, rfl⟩ := hq
            clear hin
            go_wp2_with fail
            go_meet
            exact ⟨rfl, HSE.out⟩
          | true =>
            have hb1 : 0 ≤ r ∧ r < nn := by simpa [inB] using hin
            obtain ⟨Q, rfl⟩ : ∃ Q : Nat, r = Q := ⟨r.toNat, by omega⟩
            have hgs : k'.rooms[Q]? = some ⟨sp, s0', s1, s2, s3, s4, s5, sf⟩ ∧ se = 0 := by
              have h := HST.out
              unfold stateOf at h
              rw [HRL.out, hin, if_pos rfl, Int.toNat_natCast] at h
              simp only [Prod.mk.injEq] at h
              refine ⟨?_, h.2⟩
              rw [h.1, List.getD_eq_getElem?_getD, List.getElem?_eq_getElem (by rw [HRL.out]; omega)]; rfl
            obtain ⟨hgs, rfl⟩ := hgs
            have hkk := (HSE.out.get (i := 1) rfl).here.1
            obtain ⟨rb, roff, hrA, ⟨y0, y1, y2, y3, y4, y5, y6, y7⟩, hrf, hrb, hrkb, hrl, hrc, hrm⟩ := hkk.room hgs
            obtain ⟨_, _, _, k4, _, _, _, hmb⟩ := hkk.cells
            rw [hrA, HRL.out] at k4
            rw [HRL.out] at hrl hrc
            simp only [] at y0 y1 y2 y3 y4 y5 y6 y7
            unfold maxLen at hrm
            clear hin hb1 hgs hrA hrf hkk
            have hQnn : Q < nn := by have := hrl; omega
            go_wp2_with (refine wpList_store_rowK rfl 40 _ _ rfl ob #[.int .i64 sp, .int .i64 s0', .int .i64 s1, .int .i64 s2, .int .i64 s3, .int .i64 s4, .int .i64 s5, .bool sf] rfl rfl 40 _ (HSE.out.get (i := 2) rfl).here (by kernel_rfl) rfl (by simp [Value.oneCell']) ?_)
            intro wx hx hk _
            have HSX : Hid (Stand w2 wx [tabT tb tk (m.pl.by s0) (ls.map Tl.l) T' ⟨k', now', next'⟩, rkT mb m.pl N' k', blkT ob (.cells #[.int .i64 sp, .int .i64 s0', .int .i64 s1, .int .i64 s2, .int .i64 s3, .int .i64 s4, .int .i64 s5, .bool sf] 40 (0, 0))]) := HSE.out.go 2 rfl (blk_went (HSE.out.get (i := 2) rfl) hk hx)
            clear hx hk y0 y1 y2 y3 y4 y5 y6 y7 k4
            go_wp2_with fail
            go_meet
            exact ⟨rfl, HSX.out⟩
        obtain ⟨rfl, hsf⟩ := hcut
        obtain ⟨wf, rfl⟩ : ∃ wf : World, wf = wc := ⟨_, rfl⟩
        have HSF := hid hsf
        clear hsf HSE
        have hks := tstate_any HTR.out HTO'.out (HSF.out.get (i := 0) rfl).here r
        simp only [] at hks
        rw [← HST.out] at hks
        unfold StateV stV at hks
        go_wp2_with fail
        refine hks.mono ?_
        clear hks
        rintro e wg ⟨rfl, hbg⟩
        have hsg := HSF.out.new hbg
        have hsh := hsg.lay #[.int .i64 sp, .int .i64 s0', .int .i64 s1, .int .i64 s2, .int .i64 s3, .int .i64 s4, .int .i64 s5, .bool sf] 40
        obtain ⟨wh', hwh⟩ : ∃ wh', wh' = wg.alloc (.cells #[.int .i64 sp, .int .i64 s0', .int .i64 s1, .int .i64 s2, .int .i64 s3, .int .i64 s4, .int .i64 s5, .bool sf] 40) := ⟨_, rfl⟩
        obtain ⟨ub, hub⟩ : ∃ ub, ub = wg.heap.size := ⟨_, rfl⟩
        rw [← hwh, ← hub] at hsh
        have HSH := hid hsh
        clear hbg hsg hsh HSF
        go_upto_region 40 with fail
        rw [← hwh, ← hub]
        clear hwh hub
        have hes := error_same se wh' (HG.out.new (HB2.out.trans (HSH.out.below.mono HB2.out.size)))
        go_wp2_with fail
        refine hes.mono ?_
        clear hes
        rintro e wi ⟨rfl, hbi⟩
        have HSI := hid (HSH.out.new hbi)
        clear hbi HSH
        have ht1 : wi.heap[ob]? = some (.cells #[.int .i64 sp, .int .i64 s0', .int .i64 s1, .int .i64 s2, .int .i64 s3, .int .i64 s4, .int .i64 s5, .bool sf] 40 (0, 0)) := (HSI.out.get (i := 2) rfl).here
        have ht2 : wi.heap[ub]? = some (.cells #[.int .i64 sp, .int .i64 s0', .int .i64 s1, .int .i64 s2, .int .i64 s3, .int .i64 s4, .int .i64 s5, .bool sf] 40 (0, 0)) := (HSI.out.get (i := 3) rfl).here
        have y0 := blk_cell ht1 0
        have y1 := blk_cell ht1 1
        have y2 := blk_cell ht1 2
        have y3 := blk_cell ht1 3
        have y4 := blk_cell ht1 4
        have y5 := blk_cell ht1 5
        have y6 := blk_cell ht1 6
        have y7 := blk_cell ht1 7
        have z0 := blk_cell ht2 0
        have z1 := blk_cell ht2 1
        have z2 := blk_cell ht2 2
        have z3 := blk_cell ht2 3
        have z4 := blk_cell ht2 4
        have z5 := blk_cell ht2 5
        have z6 := blk_cell ht2 6
        have z7 := blk_cell ht2 7
        simp at y0 y1 y2 y3 y4 y5 y6 y7 z0 z1 z2 z3 z4 z5 z6 z7
        have hltt := blk_lt ht1
        have hlts := blk_lt ht2
        have hgd := state_guard
        have heq : ∀ w, (binOp .eql 40 (.agg #[.int .i64 sp, .int .i64 s0', .int .i64 s1, .int .i64 s2, .int .i64 s3, .int .i64 s4, .int .i64 s5, .bool sf]) (.agg #[.int .i64 sp, .int .i64 s0', .int .i64 s1, .int .i64 s2, .int .i64 s3, .int .i64 s4, .int .i64 s5, .bool sf])).run Tryd.prog w = .ok (.bool true) w := fun w => by
          have := state_eql ⟨sp, s0', s1, s2, s3, s4, s5, sf⟩ ⟨sp, s0', s1, s2, s3, s4, s5, sf⟩ w
          rw [stEq_refl] at this; exact this
        clear ht1 ht2
        go_upto_region 41 with fail
        clear y0 y1 y2 y3 y4 y5 y6 y7 z0 z1 z2 z3 z4 z5 z6 z7 hltt hlts hgd heq HST
        have HSJ : Hid (Stand w2 wi [tabT tb tk (m.pl.by s0) (ls.map Tl.l) T' ⟨k', now', next'⟩, rkT mb m.pl N' k']) := hid (HSI.out.few (us := [blkT ob _, conT ub _]))
        clear HSI
        have hnow := tnow_any (HSJ.out.get (i := 0) rfl).here HTR.out HTO'.out (by have := HBI.out; omega)
        rw [HR.out] at hnow
        go_wp2_with fail
        refine hnow.mono ?_
        clear hnow
        rintro e wk ⟨rfl, hbk⟩
        have HSK := hid (HSJ.out.new hbk)
        clear hbk HSJ
        go_wp2_with fail
        go_roundw
        case rel => exact ⟨i + 1, now', next', T', N', k', B', by omega, by have := HIN.out; omega, rfl, rfl, by go_num, HTO'.out, HBI.out, HSK.out⟩
        case measure => simp [intOf]; omega
      · have hex : i = nss ∨ ((i : Int) < (nss : Int) ∧ i = 120) := by omega
        clear hin
        rcases hex with rfl | ⟨h1, rfl⟩
        all_goals
          go_wp2_with fail
          go_ret
          exact ⟨rfl, HBO.out⟩
  · obtain ⟨rfl, hb3⟩ := hbad hE0
    have hd : (E != 0) = true := by simpa using hE0
    have hd2 : (E == 0) = false := by simpa using hE0
    have HB3 := hid (HB2.out.trans (hb3.mono HB2.out.size))
    clear hgood hbad hb3
    go_wp2_with fail
    have hsame := error_same E w3 (HG.out.new HB3.out)
    refine hsame.mono ?_
    clear hsame
    rintro e w4 ⟨rfl, hb4⟩
    have HB4 := hid (HB3.out.trans (hb4.mono HB3.out.size))
    clear hb4
    clear hE0
    go_wp2_with fail
    go_ret
    exact ⟨rfl, HB4.out⟩
end Go.Proofs.YtongkiccglaniaaDoor
