/- The walk of framelaw4.PurgeTwice: it returns true at every input. -/
import Derived.Test.YtnighanlonkjbaaDoorPurgeU
import Derived.Test.YtnighanlonkjbaaDoorSamePlan
import Derived.Test.YtnighanlonkjbaaDoorRIn
import Derived.Test.YtnighanlonkjbaaDoorAhead
import Derived.Test.YtnighanlonkjbaaDoorCounting
import Derived.Test.YtnighanlonkjbaaDoorKLawU
import Derived.Test.YtnighanlonkjbaaDoorKernelCountsWalk
import Derived.IntWalk
namespace Go.Proofs.YtnighanlonkjbaaDoor
open Go.RowKit
set_option maxRecDepth 100000

theorem reach_none {a b : Nat} (h : Reach [] a b) : a = b := by
  induction h with
  | refl => rfl
  | step _ e _ => exact absurd e (by unfold Edge; simp)
theorem reachB_none (a b : Nat) : reachB [] a b = decide (a = b) := by
  by_cases h : a = b
  · subst h; simp [reachB, Reach.refl]
  · have h2 : ¬ Reach [] a b := fun h1 => h (reach_none h1)
    simp [reachB, h, h2]
theorem purge_count : (purgePl (countPl 2) 1).code = [restOps, countOps] := by
  have h : (countPl 2).code = [countOps, countOps] := rfl
  have hw : (countPl 2).wires = [] := rfl
  unfold purgePl
  simp only [h, hw]
  rw [List.mapIdx_cons, List.mapIdx_cons, List.mapIdx_nil]
  simp [purgeRow, reachB_none]
theorem aheadTo_mem (l : List Wire) (b : Nat) {i : Nat} (hi : i < 5) : decide ((i : Int) ∈ aheadTo l b 5) = reachB l i b := by
  have h : (i : Int) ∈ aheadTo l b 5 ↔ reachB l i b = true := by
    unfold aheadTo
    simp only [List.mem_map, List.mem_filter, List.mem_range]
    constructor
    · rintro ⟨a, ⟨_, h2⟩, h3⟩
      obtain rfl : a = i := by omega
      exact h2
    · exact fun h2 => ⟨i, ⟨hi, h2⟩, rfl⟩
  cases hb : reachB l i b with
  | true => exact decide_eq_true (h.2 hb)
  | false => exact decide_eq_false (fun h1 => by rw [h.1 h1] at hb; cases hb)
/-- What is left of the counting plan. -/
def PgFact (w : World) (e : Ending) (w' : World) : Prop :=
  ∃ b off b0 o0 c0 b1 o1 c1 c sA sc wA wc ns nw tk, e = .returned (.tuple #[.agg #[.slice (some ⟨b, off, none⟩) 2 c, .int .i64 tk, .slice sA ns sc, .slice wA nw wc], .nilIface]) ∧ w'.cell? ⟨b, off, none⟩ = some (.slice (some ⟨b0, o0, none⟩) 1 c0) ∧ w'.cell? ⟨b, off + 1, none⟩ = some (.slice (some ⟨b1, o1, none⟩) 2 c1) ∧ 2 ≤ c ∧ Below w.heap.size w w'
theorem purge_fact {w : World} {B c1 c2 : Nat} {A1 A2 : Option Addr} {rows : List Ro} (hf : Forms w) (h : Counted w B 2 A1 c1 rows A2 c2) :
    Calls Tryd.prog 51 #[.agg #[.slice A1 2 c1, .int .i64 2, .slice A2 2 c2, .slice none 0 0], .int .i64 1] w (PgFact w) := by
  have hm := h.many
  have hpl := counted_pl h
  have hk := countPl_ok 2 (by decide) (by decide)
  have hg := purge_good w (countPM 2 A1 c1 rows A2 c2) 1 hf (counted_plan h (by decide)) (by rw [hpl]; exact hk) (by show 1 < rows.length; omega)
  unfold Purged at hg
  rw [hpl] at hg
  simp only [countPM, hm] at hg
  refine Calls.mono hg ?_
  rintro e w' ⟨m', he, hp, hpm, _, hb⟩
  have hc : m'.ros.map Ro.ops = [restOps, countOps] := by
    have := congrArg Pl.code hpm
    rw [purge_count] at this
    exact this
  have hl : m'.ros.length = 2 := by have := congrArg List.length hc; simpa using this
  obtain ⟨A, c, ros, tk, sA, sc, spans, wA, wc, wires⟩ := m'
  match ros, hl with
  | [r0, r1], _ =>
    simp only [List.map_cons, List.map_nil, List.cons.injEq, and_true] at hc
    obtain ⟨g0, g1⟩ := hc
    obtain ⟨b, off, hA, _, k0⟩ := hp.rows.ro (Below.refl _ _) (i := 0) (r := r0) rfl (by show 0 < 2; decide)
    obtain ⟨b', off', hA', _, k1⟩ := hp.rows.ro (Below.refl _ _) (i := 1) (r := r1) rfl (by show 1 < 2; decide)
    simp only [] at hA hA'
    rw [hA] at hA'
    cases hA'
    have q0 := (hp.codes r0 (by simp)).1
    have q1 := (hp.codes r1 (by simp)).1
    rw [g0] at q0 k0
    rw [g1] at q1 k1
    obtain ⟨b0, o0, h0, _⟩ := q0.2 (by decide)
    obtain ⟨b1, o1, h1, _⟩ := q1.2 (by decide)
    rw [h0] at k0
    rw [h1] at k1
    have hcap := hp.rowsW.1
    subst hA
    exact ⟨b, off, b0, o0, r0.c, b1, o1, r1.c, c, sA, sc, wA, wc, spans.length, wires.length, tk, he, k0, k1, hcap, hb⟩

/-- What is told of who is ahead, its length by a name. -/
def AheadN (w : World) (n : Nat) (xs : List Int) (e : Ending) (w' : World) : Prop :=
  ∃ A cap, e = .returned (.tuple #[.slice A n cap, .nilIface]) ∧ Row w' 3 1 A n cap (ints xs) ∧ (∀ k, InA A k → w.heap.size ≤ k) ∧ Below w.heap.size w w'
set_option maxHeartbeats 4000000 in
theorem purgeTwice_walk {w : World} (hf : Forms w) (m : PM) (hm : PlanAt w m) (r : Int) (_hr : Fits r) :
    Calls Tryd.prog 14 #[.agg #[.slice m.A m.ros.length m.c, .int .i64 m.ticks, .slice m.sA m.spans.length m.sc, .slice m.wA m.wires.length m.wc], .int .i64 r] w fun e w' => e = .returned (.bool true) ∧ Below w.heap.size w w' := by
  have HF := hid hf
  have HM := hid hm
  obtain ⟨nr, hnr⟩ : ∃ nr, m.ros.length = nr := ⟨_, rfl⟩
  obtain ⟨ns, hns⟩ : ∃ ns, m.spans.length = ns := ⟨_, rfl⟩
  obtain ⟨nw, hnw⟩ : ∃ nw, m.wires.length = nw := ⟨_, rfl⟩
  rw [hnr, hns, hnw]
  have HNR := hid hnr
  have HNS := hid hns
  have HNW := hid hnw
  clear hnr hns hnw hf hm
  go_enter Tryd.func14, Tryd.ntmps14
  go_upto_region 5 with (first
    | (go_at_call 34; refine (counting_any 2 (by decide) _).mono ?_; rintro e w1 ⟨A1, c1, rows, A2, c2, rfl, hcnt, hb1⟩; have HB1 := hid (((Below.refl w.heap.size w).alloc (Nat.le_refl _) _).trans (hb1.mono (by simp))); have HBX1 := hid ((hb1.block w.heap.size (by simp)).trans (heap_alloc_new w _)); have HC := hid (purge_fact ((HF.out.new HB1.out).new ((Below.refl w1.heap.size w1).alloc (Nat.le_refl _) (.cells #[.slice A1 2 c1, .int .i64 2, .slice A2 2 c2, .slice none 0 0] 70))) (B := w.heap.size + 1) ⟨hcnt.code.new ((Below.refl _ _).alloc (Nat.le_refl _) _), fun r hr => ⟨(hcnt.each r hr).1, (hcnt.each r hr).2.1.new ((Below.refl _ _).alloc (Nat.le_refl _) _), (by have := (hcnt.each r hr).2.2; simpa using this)⟩, hcnt.many, hcnt.spans.new ((Below.refl _ _).alloc (Nat.le_refl _) _), (by have := hcnt.new1; simpa using this), (by have := hcnt.new2; simpa using this)⟩); clear hcnt hb1)
    | (go_at_call 51; refine (HC.out).mono ?_; rintro e w2 ⟨b, off, b0, o0, c0, b1, o1, d1, c, sA, sc, wA, wc, fs, fw, tk, rfl, k0, k1, hcap, hb2⟩; have HB2 := hid (HB1.out.trans (((Below.refl _ _).alloc (Nat.le_refl _) _ |>.trans (hb2.mono (by simp))).mono HB1.out.size)); have HBX2 := hid ((hb2.block w.heap.size (by have := blk_lt HBX1.out; simp; omega)).trans ((blk_alloc (blk_lt HBX1.out) _).trans HBX1.out)); have hltk := cell_lt k0; clear hb2))
  obtain ⟨w3, hw3⟩ : ∃ w3, w3 = w2.alloc (.cells #[.slice (some ⟨b, off, none⟩) 2 c, .int .i64 tk, .slice sA fs sc, .slice wA fw wc] 70) := ⟨_, rfl⟩
  have hb3 : Below w2.heap.size w2 w3 := by rw [hw3]; exact (Below.refl _ _).alloc (Nat.le_refl _) _
  have hbx := (hb3.block _ (blk_lt HBX2.out)).trans HBX2.out
  have x0 := blk_cell hbx 0
  have x1 := blk_cell hbx 1
  have x2 := blk_cell hbx 2
  have x3 := blk_cell hbx 3
  have hltx := blk_lt hbx
  simp at x0 x1 x2 x3
  have HB3 := hid (HB2.out.trans (hb3.mono HB2.out.size))
  have HBX3 := hid hbx
  rw [← hw3]
  clear hw3 hb3 hbx k0 k1 hcap hltk HC HBX1 HBX2 HB1 HB2
  by_cases hok : planChk m.pl = 0 ∧ 0 ≤ r ∧ r < nr
  · obtain ⟨he, hr0, hr1⟩ := hok
    obtain ⟨R, rfl⟩ : ∃ R : Nat, r = R := ⟨r.toNat, by omega⟩
    have hp := planChk_ok he
    have hrn : R < m.ros.length := by have := HNR.out; omega
    have hnr5 : nr ≤ 5 := by have := (planSmall he).ros; have := HNR.out; omega
    have hg1 := purge_good w3 m R (HF.out.new HB3.out) (HM.out.new HB3.out) he hrn
    have hnr := HNR.out
    have hns := HNS.out
    have hnw := HNW.out
    rw [hnr, hns, hnw] at hg1
    have HG1 := hid hg1
    clear hg1 hnr hns hnw
    go_wp2_with fail
    refine (HG1.out).mono ?_
    rintro e w4 ⟨m1, rfl, hp1, hpl1, _, hb4⟩
    have hc1 : planChk m1.pl = 0 := by rw [hpl1]; exact purge_chk he R
    have hn1 : m1.ros.length = nr := by
      have := congrArg (fun q : Pl => q.code.length) hpl1
      simp only [purge_len] at this
      simpa [PM.pl, HNR.out] using this
    obtain ⟨w5, hw5⟩ : ∃ w5, w5 = w4.alloc (.cells #[.slice m1.A nr m1.c, .int .i64 m1.ticks, .slice m1.sA m1.spans.length m1.sc, .slice m1.wA m1.wires.length m1.wc] 70) := ⟨_, rfl⟩
    have hb5 : Below w4.heap.size w4 w5 := by rw [hw5]; exact (Below.refl _ _).alloc (Nat.le_refl _) _
    have hy5 : w5.heap[w4.heap.size]? = some (.cells #[.slice m1.A nr m1.c, .int .i64 m1.ticks, .slice m1.sA m1.spans.length m1.sc, .slice m1.wA m1.wires.length m1.wc] 70 (0, 0)) := by rw [hw5]; exact heap_alloc_new _ _
    have hb35 : Below w3.heap.size w3 w5 := hb4.trans (hb5.mono hb4.size)
    have hbx5 := (hb35.block _ hltx).trans HBX3.out
    have HB5 := hid (HB3.out.trans (hb35.mono HB3.out.size))
    have HP1 := hid (hp1.new hb5)
    have HPL1 := hid hpl1
    have HN1 := hid hn1
    have HBX5 := hid hbx5
    have HY5 := hid hy5
    have hg2 := purge_good w5 m1 R (HF.out.new HB5.out) (hp1.new hb5) hc1 (by rw [hn1]; omega)
    rw [hn1] at hg2
    have HG2 := hid hg2
    have HSM := hid (planSmall hc1)
    have y0 := blk_cell hy5 0
    have y1 := blk_cell hy5 1
    have y2 := blk_cell hy5 2
    have y3 := blk_cell hy5 3
    have hlty := blk_lt hy5
    simp at y0 y1 y2 y3
    clear x0 x1 x2 x3 hltx
    have x3 := blk_cell hbx5 3
    have hltx := blk_lt hbx5
    simp at x3
    rw [hn1]
    clear hb4 hb5 hb35 hbx5 hy5 hg2 hp1 hpl1 hn1 hc1 HG1 HBX3
    go_wp2_with fail
    rw [← hw5]
    clear hw5
    refine (HG2.out).mono ?_
    rintro e w6 ⟨m2, rfl, hp2, hpl2, _, hb6⟩
    rw [HPL1.out, purge_twice, ← HPL1.out] at hpl2
    obtain ⟨w7, hw7⟩ : ∃ w7, w7 = w6.alloc (.cells #[.slice m2.A m2.ros.length m2.c, .int .i64 m2.ticks, .slice m2.sA m2.spans.length m2.sc, .slice m2.wA m2.wires.length m2.wc] 70) := ⟨_, rfl⟩
    have hb7 : Below w6.heap.size w6 w7 := by rw [hw7]; exact (Below.refl _ _).alloc (Nat.le_refl _) _
    have hz7 : w7.heap[w6.heap.size]? = some (.cells #[.slice m2.A m2.ros.length m2.c, .int .i64 m2.ticks, .slice m2.sA m2.spans.length m2.sc, .slice m2.wA m2.wires.length m2.wc] 70 (0, 0)) := by rw [hw7]; exact heap_alloc_new _ _
    have hb57 : Below w5.heap.size w5 w7 := hb6.trans (hb7.mono hb6.size)
    have HB7 := hid (HB5.out.trans (hb57.mono HB5.out.size))
    have HP2 := hid (hp2.new hb7)
    have HPL2 := hid hpl2
    have HY7 := hid ((hb57.block _ hlty).trans HY5.out)
    have HBX7 := hid ((hb57.block _ hltx).trans HBX5.out)
    have HB57 := hid hb57
    have HZ7 := hid hz7
    have hah := ahead_any R m.wA m.wc m.wires w7 (HM.out.new HB7.out).wires HM.out.wiresW
    rw [HNW.out] at hah
    have haq : aheadOf m.wires (R : Int) = (aheadTo m.wires R 5, 0) := by
      unfold aheadOf
      have h1 : (flowChk m.wires).2 = 0 := hp.flow
      rw [if_neg (fun h2 => h2 h1), if_neg (by rw [show roomB (R : Int) = true from roomB_true.2 (by omega)]; decide), Int.toNat_natCast]
    rw [haq] at hah
    unfold TellL at hah
    simp only [errV_zero] at hah
    have hxl := aheadTo_le m.wires R 5
    obtain ⟨na, hna⟩ : ∃ na, na = (aheadTo m.wires R 5).length := ⟨_, rfl⟩
    rw [← hna] at hah hxl
    have HNA := hid hna
    have HAH : Hid (Calls Tryd.prog 52 #[.slice m.wA nw m.wc, .int .i64 R] w7 (AheadN w7 na (aheadTo m.wires R 5))) := hah
    have hx6 := (hb6.block _ hltx).trans HBX5.out
    clear x3 hltx y0 y1 y2 y3 hlty
    have x3 := blk_cell hx6 3
    have hltx := blk_lt hx6
    simp at x3
    clear hx6
    have hb67 := hb6.size
    clear hb6 hb7 hb57 hz7 hp2 hpl2 hah haq hna HG2 HBX5 HY5
    go_wp2_with fail
    rw [← hw7]
    clear hw7
    refine (HAH.out).mono ?_
    rintro e w8 ⟨AA, ca, rfl, hra, _, hb8⟩
    have HRA := hid hra
    have HB8 := hid hb8
    have hsame := same_plan m2 m1 w8 (HP2.out.new hb8) ((HP1.out.new HB57.out).new hb8) HPL2.out (by have := congrArg (fun q : Pl => q.code.length) HPL2.out; simp only [PM.pl, List.length_map, HN1.out] at this; omega)
      (by have h1 : m2.spans = m1.spans := congrArg Pl.spans HPL2.out; rw [h1]; have := HSM.out.spans; omega) (by have h1 : m2.wires = m1.wires := congrArg Pl.wires HPL2.out; rw [h1]; have := HSM.out.wires; omega)
      (fun q hq => by
        have h1 : m2.ros.map Ro.ops = m1.ros.map Ro.ops := congrArg Pl.code HPL2.out
        have h2 : q.ops ∈ m1.ros.map Ro.ops := by rw [← h1]; exact List.mem_map_of_mem hq
        obtain ⟨q', hq', he'⟩ := List.mem_map.1 h2
        have := HSM.out.ops q' hq'
        rw [← he']; omega)
    rw [HN1.out] at hsame
    have HSAME := hid hsame
    have hy8 := (hb8.block _ (blk_lt HY7.out)).trans HY7.out
    have hz8 := (hb8.block _ (blk_lt HZ7.out)).trans HZ7.out
    have hx8 := (hb8.block _ (blk_lt HBX7.out)).trans HBX7.out
    have y0 := blk_cell hy8 0
    have y1 := blk_cell hy8 1
    have y2 := blk_cell hy8 2
    have y3 := blk_cell hy8 3
    have z0 := blk_cell hz8 0
    have z1 := blk_cell hz8 1
    have z2 := blk_cell hz8 2
    have z3 := blk_cell hz8 3
    have hlty := blk_lt hy8
    have hltz := blk_lt hz8
    simp at y0 y1 y2 y3 z0 z1 z2 z3
    clear x3 hltx hra hb8 hsame
    go_wp2_with fail
    refine (HSAME.out).mono ?_
    rintro e w9 ⟨rfl, hb9⟩
    have HY9 := hid ((hb9.block _ hlty).trans hy8)
    have HX9 := hid ((hb9.block _ (blk_lt hx8)).trans hx8)
    have HRA9 := hid (HRA.out.new hb9)
    have HB9 := hid (HB7.out.trans ((HB8.out.trans (hb9.mono HB8.out.size)).mono HB7.out.size))
    have HP9 := hid (((HP1.out.new HB57.out).new HB8.out).new hb9)
    clear y0 y1 y2 y3 z0 z1 z2 z3 hlty hltz hy8 hz8 hx8 hb9 HSAME HZ7 HBX7 HY7
    have x0 := blk_cell HX9.out 0
    have hltx := blk_lt HX9.out
    simp at x0
    go_wp2_with fail
    clear x0 hltx
    have hca := HRA9.out.le
    unfold maxLen at hca
    go_loopw [14, 15] (fun v14 v15 wr => ∃ i : Nat, i ≤ nr ∧ v14 = .int .i64 i ∧ Below w9.heap.size w9 wr) (fun v14 _ _ => nr - (intOf v14).toNat)
    case atStart => exact ⟨0, by omega, rfl, Below.refl _ _⟩
    case round =>
      obtain ⟨i, hi, rfl, hbr⟩ := hrel
      have HBR := hid hbr
      have hx := (hbr.block _ (blk_lt HX9.out)).trans HX9.out
      have hy := (hbr.block _ (blk_lt HY9.out)).trans HY9.out
      have x0 := blk_cell hx 0
      have y0 := blk_cell hy 0
      have hltx := blk_lt hx
      have hlty := blk_lt hy
      simp at x0 y0
      clear hbr hx hy
      by_cases hin : i < nr
      · have hrin := rin_any AA na ca (aheadTo m.wires R 5) i wr (by have := (HRA9.out.new HBR.out).sl; exact this) (by omega) hca.1
        rw [aheadTo_mem m.wires R (show i < 5 by omega)] at hrin
        have hbw := HB9.out.trans (HBR.out.mono HB9.out.size)
        obtain ⟨p, q, pb, po, qb, qo, e1, e2, lp, lq, g1, g2, g3, g4, g5, g6, g7⟩ : ∃ (p q : Ro) (pb po qb qo : Nat), m.A = some ⟨pb, po, none⟩ ∧ m1.A = some ⟨qb, qo, none⟩ ∧ pb < wr.heap.size ∧ qb < wr.heap.size ∧ wr.cell? ⟨pb, po + i, none⟩ = some (.slice p.A p.ops.length p.c) ∧ wr.cell? ⟨qb, qo + i, none⟩ = some (.slice q.A q.ops.length q.c) ∧
            (reachB m.wires i R = true → q.ops = p.ops) ∧ p.At wr ∧ q.At wr ∧ p.ops.length ≤ 1000 ∧ q.ops.length ≤ 1000 := by
          have hl1 : i < m.ros.length := by rw [HNR.out]; exact hin
          have hl2 : i < m1.ros.length := by rw [HN1.out]; exact hin
          have h1 := List.getElem?_eq_getElem hl1
          have h2 := List.getElem?_eq_getElem hl2
          generalize m.ros[i] = p at h1
          generalize m1.ros[i] = q at h2
          have hmr := HM.out.new hbw
          have hqr := HP9.out.new HBR.out
          obtain ⟨pb, po, a1, a2, a3⟩ := hmr.rows.ro (Below.refl _ _) h1 hl1
          obtain ⟨qb, qo, k1, k2, k3⟩ := hqr.rows.ro (Below.refl _ _) h2 hl2
          refine ⟨p, q, pb, po, qb, qo, a1, k1, a2, k2, a3, k3, fun hre => ?_, hmr.codes p (List.mem_of_getElem? h1), hqr.codes q (List.mem_of_getElem? h2), ?_, ?_⟩
          · have h3 := congrArg (fun z : Pl => z.code[i]?) HPL1.out
            simp only [purge_get] at h3
            simp only [PM.pl, List.getElem?_map, h1, h2, Option.map_some, purgeRow, hre, if_true, Option.some.injEq] at h3
            exact h3
          · have := (codeChk_ok (hp.codes p.ops (by simp only [PM.pl]; exact List.mem_map_of_mem (List.mem_of_getElem? h1)))).2.1; omega
          · have := HSM.out.ops q (List.mem_of_getElem? h2); omega
        rw [e1] at x0
        rw [e2] at y0
        obtain ⟨pA, pc, pops⟩ := p
        obtain ⟨qA, qc, qops⟩ := q
        have hpw := g4.2.1.1
        have hqw := g5.2.1.1
        have hps := g4.1
        have hqs := g5.1
        simp only [] at g1 g2 g3 g6 g7 hpw hqw hps hqs
        clear g4 g5 e1 e2
        by_cases hre : reachB m.wires i R = true
        · rw [hre] at hrin
          have hops := g3 hre
          rw [hops] at g2 hqw hqs
          obtain ⟨no, hno⟩ : ∃ no, no = pops.length := ⟨_, rfl⟩
          have hcq : ∀ e, Calls Tryd.prog 55 #[.slice qA no qc, .slice pA no pc] (wr.drewN e) fun ev w' => ev = .returned (.bool true) ∧ ∃ m, w' = wr.drewN m := fun e => by
            rw [hno]; exact same_code_q qA pA pops.length qc pc pops wr e hqs hps (by omega) hqw hpw
          rw [← hno] at g1 g2
          have HRIN := hid hrin
          have HCQ := hid hcq
          clear hrin hcq hre hops g3 hps hqs hpw hqw hno hbw
          go_wp2_with (go_at_call 54; refine (HRIN.out).mono ?_; rintro e w' ⟨rfl, rfl⟩)
          go_quiet ((go_at_call 55; exact HCQ.out _))
          go_wp2_with fail
          go_roundw
          case rel => exact ⟨i + 1, by omega, by go_num, below_drawn HBR.out _⟩
          case measure => simp [intOf]; omega
        · have hrf : reachB m.wires i R = false := by simpa using hre
          rw [hrf] at hrin
          have HRIN := hid hrin
          clear hrin hre hrf g1 g2 g3 hps hqs hpw hqw hbw
          go_wp2_with (go_at_call 54; refine (HRIN.out).mono ?_; rintro e w' ⟨rfl, rfl⟩)
          go_quiet (fail)
          go_wp2_with fail
          go_roundw
          case rel => exact ⟨i + 1, by omega, by go_num, below_drawn HBR.out _⟩
          case measure => simp [intOf]; omega
      · obtain rfl : nr = i := by omega
        go_wp2_with fail
        go_ret
        exact ⟨rfl, HB9.out.trans (HBR.out.mono HB9.out.size)⟩
  · obtain ⟨E, hE, HBAD⟩ : ∃ E : Int, E ≠ 0 ∧ Hid (Calls Tryd.prog 51 #[.agg #[.slice m.A nr m.c, .int .i64 m.ticks, .slice m.sA ns m.sc, .slice m.wA nw m.wc], .int .i64 r] w3
        fun e w' => e = .returned (.tuple #[.agg #[.slice none 0 0, .int .i64 0, .slice none 0 0, .slice none 0 0], .iface 119 (.int .i64 E)]) ∧ Below w3.heap.size w3 w') := by
      have hnr := HNR.out
      have hns := HNS.out
      have hnw := HNW.out
      by_cases he : planChk m.pl = 0
      · have h := purge_range w3 m r (HF.out.new HB3.out) (HM.out.new HB3.out) he (by omega)
        rw [hnr, hns, hnw, errV_pos (by decide)] at h
        exact ⟨1, by decide, h⟩
      · have h := purge_bad w3 m r (HF.out.new HB3.out) (HM.out.new HB3.out) he
        rw [hnr, hns, hnw, errV_pos he] at h
        exact ⟨_, he, h⟩
    clear hok
    go_wp2_with (go_at_call 51; refine (HBAD.out).mono ?_; rintro e w4 ⟨rfl, hb4⟩)
    go_ret
    exact ⟨rfl, (HB3.out.trans (hb4.mono HB3.out.size)).alloc (by have := hb4.size; have := HB3.out.size; omega) _⟩
end Go.Proofs.YtnighanlonkjbaaDoor
