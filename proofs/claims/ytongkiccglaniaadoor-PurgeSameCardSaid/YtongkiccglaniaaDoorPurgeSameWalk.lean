/- The walk of framelaw2.PurgeSame: it returns true at every input. -/
import Derived.Test.YtongkiccglaniaaDoorPurgeSameW
import Derived.Test.YtongkiccglaniaaDoorPurgeU
namespace Go.Proofs.YtongkiccglaniaaDoor
open Go.RowKit
set_option maxRecDepth 100000

/-- Two rooms, each of one op; each has one of two ticks. -/
def duoPl : Pl := ⟨[[⟨1, 0, 1⟩], [⟨1, 0, 2⟩]], 2, [⟨0, 1, 0⟩, ⟨1, 2, 1⟩], []⟩
def duoPM (s : Nat) : PM := ⟨some ⟨s + 1 + 1, 0, none⟩, 2, [⟨some ⟨s, 0, none⟩, 1, [⟨1, 0, 1⟩]⟩, ⟨some ⟨s + 1, 0, none⟩, 1, [⟨1, 0, 2⟩]⟩], 2, some ⟨s + 1 + 1 + 1, 0, none⟩, 2, [⟨0, 1, 0⟩, ⟨1, 2, 1⟩], none, 0, []⟩
theorem duo_chk : planChk duoPl = 0 := by decide
theorem duo_pl (s : Nat) : (duoPM s).pl = duoPl := rfl
theorem duo_plan {w : World} {s : Nat} (h0 : w.heap[s]? = some (.cells #[.int .i64 1, .int .i64 0, .int .i64 1] 45 (0, 0))) (h1 : w.heap[s + 1]? = some (.cells #[.int .i64 1, .int .i64 0, .int .i64 2] 45 (0, 0)))
    (h2 : w.heap[s + 1 + 1]? = some (.cells #[.slice (some ⟨s, 0, none⟩) 1 1, .slice (some ⟨s + 1, 0, none⟩) 1 1] 46 (0, 0))) (h3 : w.heap[s + 1 + 1 + 1]? = some (.cells #[.int .i64 0, .int .i64 1, .int .i64 0, .int .i64 1, .int .i64 2, .int .i64 1] 68 (0, 0))) : PlanAt w (duoPM s) := by
  refine ⟨sl_blk h2 1 2 _ rfl rfl, lit_slW _ 2 (by omega), fun r hr => ?_, fits_lit (a := 2) (by decide), sl_blk h3 3 2 _ rfl rfl, lit_slW _ 2 (by omega), fun y hy => ?_, Sl.nil _ _ _, ⟨Nat.le_refl _, Nat.zero_le _, fun _ => ⟨rfl, rfl⟩⟩, fun y hy => by simp [duoPM] at hy⟩
  · simp [duoPM] at hr
    rcases hr with rfl | rfl
    · refine ⟨sl_blk h0 3 1 _ rfl rfl, lit_slW _ 1 (by omega), fun o ho => ?_⟩
      simp at ho; subst ho
      refine ⟨⟨?_, ?_⟩, ⟨?_, ?_⟩, ⟨?_, ?_⟩⟩ <;> decide
    · refine ⟨sl_blk h1 3 1 _ rfl rfl, lit_slW _ 1 (by omega), fun o ho => ?_⟩
      simp at ho; subst ho
      refine ⟨⟨?_, ?_⟩, ⟨?_, ?_⟩, ⟨?_, ?_⟩⟩ <;> decide
  · simp [duoPM] at hy
    rcases hy with rfl | rfl <;> (refine ⟨⟨?_, ?_⟩, ⟨?_, ?_⟩, ⟨?_, ?_⟩⟩ <;> decide)
theorem no_reach {a b : Nat} (h : Reach [] a b) : a = b := by
  induction h with
  | refl => rfl
  | step _ e _ => exact absurd e (by unfold Edge; simp)
theorem duo_purged : (purgePl duoPl 0).code = [[⟨1, 0, 1⟩], restOps] := by
  have h0 : reachB [] 0 0 = true := by simp [reachB, Reach.refl]
  have h1 : reachB [] 1 0 = false := by
    have h2 : ¬ Reach [] 1 0 := fun h1 => by have := no_reach h1; omega
    simp [reachB, h2]
  have hc : duoPl.code = [[⟨1, 0, 1⟩], [⟨1, 0, 2⟩]] := rfl
  have hw : duoPl.wires = [] := rfl
  unfold purgePl
  simp only [hc, hw]
  rw [List.mapIdx_cons, List.mapIdx_cons, List.mapIdx_nil]
  simp [purgeRow, h0, h1]
/-- What is left of it. -/
def DuoFact (w : World) (e : Ending) (w' : World) : Prop :=
  ∃ b off b0 o0 c0 b1 o1 c1 c sA sc wA wc ns nw tk, e = .returned (.tuple #[.agg #[.slice (some ⟨b, off, none⟩) 2 c, .int .i64 tk, .slice sA ns sc, .slice wA nw wc], .nilIface]) ∧ w'.cell? ⟨b, off, none⟩ = some (.slice (some ⟨b0, o0, none⟩) 1 c0) ∧ w'.cell? ⟨b, off + 1, none⟩ = some (.slice (some ⟨b1, o1, none⟩) 1 c1) ∧
    w'.cell? ⟨b0, o0, none⟩ = some (.int .i64 1) ∧ w'.cell? ⟨b1, o1, none⟩ = some (.int .i64 10) ∧ b < w'.heap.size ∧ b0 < w'.heap.size ∧ b1 < w'.heap.size ∧ Below w.heap.size w w'
theorem duo_fact {w0 : World} (hf : Forms w0) (s : Nat) (hz : w0.heap.size = s) {w : World} (hw : w = ((((w0.alloc (.cells #[.int .i64 1, .int .i64 0, .int .i64 1] 45)).alloc (.cells #[.int .i64 1, .int .i64 0, .int .i64 2] 45)).alloc (.cells #[.slice (some ⟨s, 0, none⟩) 1 1, .slice (some ⟨s + 1, 0, none⟩) 1 1] 46)).alloc (.cells #[.int .i64 0, .int .i64 1, .int .i64 0, .int .i64 1, .int .i64 2, .int .i64 1] 68)).alloc (.cells #[.slice (some ⟨s + 1 + 1, 0, none⟩) 2 2, .int .i64 2, .slice (some ⟨s + 1 + 1 + 1, 0, none⟩) 2 2, .slice none 0 0] 31)) :
    Calls Tryd.prog 42 #[.agg #[.slice (some ⟨s + 1 + 1, 0, none⟩) 2 2, .int .i64 2, .slice (some ⟨s + 1 + 1 + 1, 0, none⟩) 2 2, .slice none 0 0], .int .i64 0] w (DuoFact w) ∧ Below w0.heap.size w0 w := by
  have hblk : w.heap[s]? = some (.cells #[.int .i64 1, .int .i64 0, .int .i64 1] 45 (0, 0)) ∧ w.heap[s + 1]? = some (.cells #[.int .i64 1, .int .i64 0, .int .i64 2] 45 (0, 0)) ∧ w.heap[s + 1 + 1]? = some (.cells #[.slice (some ⟨s, 0, none⟩) 1 1, .slice (some ⟨s + 1, 0, none⟩) 1 1] 46 (0, 0)) ∧ w.heap[s + 1 + 1 + 1]? = some (.cells #[.int .i64 0, .int .i64 1, .int .i64 0, .int .i64 1, .int .i64 2, .int .i64 1] 68 (0, 0)) := by
    rw [hw]
    simp only [hp_alloc, sz_alloc, hz]
    refine ⟨?_, ?_, ?_, ?_⟩
    all_goals (repeat (first | rw [if_pos True.intro] | rw [if_pos rfl] | rw [if_neg (by omega)]))
  have hb : Below w0.heap.size w0 w := by rw [hw]; exact (((((Below.refl _ _).alloc (Nat.le_refl _) _).alloc (by simp) _).alloc (by simp; omega) _).alloc (by simp; omega) _).alloc (by simp; omega) _
  obtain ⟨k0, k1, k2, k3⟩ := hblk
  refine ⟨?_, hb⟩
  refine (purge_good w (duoPM s) 0 (hf.new hb) (duo_plan k0 k1 k2 k3) (by rw [duo_pl]; exact duo_chk) (by show 0 < 2; decide)).mono ?_
  rintro e w' ⟨m', he, hp, hpm, _, hbw⟩
  have hc : m'.ros.map Ro.ops = [[⟨1, 0, 1⟩], restOps] := by
    have := congrArg Pl.code hpm
    rw [duo_pl, duo_purged] at this
    exact this
  have hl : m'.ros.length = 2 := by have := congrArg List.length hc; simpa using this
  obtain ⟨A, c, ros, tk, sA, sc, spans, wA, wc, wires⟩ := m'
  match ros, hl with
  | [r0, r1], _ =>
    simp only [List.map_cons, List.map_nil, List.cons.injEq, and_true] at hc
    obtain ⟨g0, g1⟩ := hc
    obtain ⟨b, off, hA, hlb, k0⟩ := hp.rows.ro (Below.refl _ _) (i := 0) (r := r0) rfl (by show 0 < 2; decide)
    obtain ⟨b', off', hA', _, k1⟩ := hp.rows.ro (Below.refl _ _) (i := 1) (r := r1) rfl (by show 1 < 2; decide)
    simp only [] at hA hA'
    rw [hA] at hA'
    cases hA'
    have q0 := (hp.codes r0 (by simp)).1
    have q1 := (hp.codes r1 (by simp)).1
    rw [g0] at q0 k0
    rw [g1] at q1 k1
    obtain ⟨b0, o0, h0, hl0, f0⟩ := q0.2 (by decide)
    obtain ⟨b1, o1, h1, hl1, f1⟩ := q1.2 (by decide)
    rw [h0] at k0
    rw [h1] at k1
    have z0 := f0 0 _ rfl
    have z1 := f1 0 _ rfl
    subst hA
    exact ⟨b, off, b0, o0, r0.c, b1, o1, r1.c, c, sA, sc, wA, wc, spans.length, wires.length, tk, he, k0, k1, z0, z1, hlb, hl0, hl1, hbw⟩

theorem purge_at {p : Pl} (hp : PlOk p) (r n : Nat) : sameAt p (purgePl p r) r n = -1 := by
  unfold sameAt
  refine firstOf_none fun j _ => ?_
  have h := purge_same hp r j
  unfold stAtT
  rw [List.getD_eq_getElem?_getD, List.getD_eq_getElem?_getD, h, stEq_refl]; rfl

set_option maxHeartbeats 4000000 in
theorem purgeSame_walk {w : World} (hf : Forms w) (m : PM) (hm : PlanAt w m) (n r : Int) :
    Calls Tryd.prog 12 #[.agg #[.slice m.A m.ros.length m.c, .int .i64 m.ticks, .slice m.sA m.spans.length m.sc, .slice m.wA m.wires.length m.wc], .int .i64 n, .int .i64 r] w fun e w' => e = .returned (.bool true) ∧ Below w.heap.size w w' := by
  have HF := hid hf
  have HM := hid hm
  obtain ⟨w1, hw1⟩ : ∃ w1, w1 = w.alloc (.cells #[.slice m.A m.ros.length m.c, .int .i64 m.ticks, .slice m.sA m.spans.length m.sc, .slice m.wA m.wires.length m.wc] 31) := ⟨_, rfl⟩
  have hb1 : Below w.heap.size w w1 := by rw [hw1]; exact (Below.refl _ _).alloc (Nat.le_refl _) _
  have hbox : w1.heap[w.heap.size]? = some (.cells #[.slice m.A m.ros.length m.c, .int .i64 m.ticks, .slice m.sA m.spans.length m.sc, .slice m.wA m.wires.length m.wc] 31 (0, 0)) := by rw [hw1]; exact heap_alloc_new w _
  have hsz1 : w1.heap.size = w.heap.size + 1 := by rw [hw1]; simp
  obtain ⟨w2, hw2⟩ : ∃ w2, w2 = ((((w1.alloc (.cells #[.int .i64 1, .int .i64 0, .int .i64 1] 45)).alloc (.cells #[.int .i64 1, .int .i64 0, .int .i64 2] 45)).alloc (.cells #[.slice (some ⟨w.heap.size + 1, 0, none⟩) 1 1, .slice (some ⟨w.heap.size + 1 + 1, 0, none⟩) 1 1] 46)).alloc (.cells #[.int .i64 0, .int .i64 1, .int .i64 0, .int .i64 1, .int .i64 2, .int .i64 1] 68)).alloc (.cells #[.slice (some ⟨w.heap.size + 1 + 1 + 1, 0, none⟩) 2 2, .int .i64 2, .slice (some ⟨w.heap.size + 1 + 1 + 1 + 1, 0, none⟩) 2 2, .slice none 0 0] 31) := ⟨_, rfl⟩
  obtain ⟨hfact, hb2⟩ := duo_fact (HF.out.new hb1) (w.heap.size + 1) hsz1 hw2
  unfold DuoFact at hfact
  obtain ⟨nn, hnn⟩ : ∃ nn, m.ros.length = nn := ⟨_, rfl⟩
  obtain ⟨ns, hns⟩ : ∃ ns, m.spans.length = ns := ⟨_, rfl⟩
  obtain ⟨nw, hnw⟩ : ∃ nw, m.wires.length = nw := ⟨_, rfl⟩
  rw [hnn, hns, hnw] at hw1 hbox ⊢
  have HNN := hid hnn
  have HNS := hid hns
  have HNW := hid hnw
  have HB2 := hid (hb1.trans (hb2.mono hb1.size))
  have HBX := hid ((hb2.block _ (blk_lt hbox)).trans hbox)
  have HFACT := hid hfact
  have hl0 : w2.cell? ⟨w.heap.size + 1 + 1 + 1 + 1 + 1, 0, none⟩ = some (.slice (some ⟨w.heap.size + 1 + 1 + 1, 0, none⟩) 2 2) ∧ w2.cell? ⟨w.heap.size + 1 + 1 + 1 + 1 + 1, 1, none⟩ = some (.int .i64 2) ∧ w2.cell? ⟨w.heap.size + 1 + 1 + 1 + 1 + 1, 2, none⟩ = some (.slice (some ⟨w.heap.size + 1 + 1 + 1 + 1, 0, none⟩) 2 2) ∧ w2.cell? ⟨w.heap.size + 1 + 1 + 1 + 1 + 1, 3, none⟩ = some (.slice none 0 0) ∧ w.heap.size + 1 + 1 + 1 + 1 + 1 < w2.heap.size := by
    have hb : w2.heap[w.heap.size + 1 + 1 + 1 + 1 + 1]? = some (.cells #[.slice (some ⟨w.heap.size + 1 + 1 + 1, 0, none⟩) 2 2, .int .i64 2, .slice (some ⟨w.heap.size + 1 + 1 + 1 + 1, 0, none⟩) 2 2, .slice none 0 0] 31 (0, 0)) := by
      rw [hw2]
      simp only [hp_alloc, sz_alloc, hsz1]
      repeat (first | rw [if_pos True.intro] | rw [if_pos rfl] | rw [if_neg (by omega)])
    exact ⟨blk_cell hb 0, blk_cell hb 1, blk_cell hb 2, blk_cell hb 3, blk_lt hb⟩
  obtain ⟨x0, x1, x2, x3, hlt⟩ := hl0
  clear hf hm hb1 hbox hsz1 hb2 hfact hnn hns hnw
  go_enter Tryd.func12, Tryd.ntmps12
  go_wp2_with fail
  rw [← hw1, ← hw2]
  clear hw1 hw2
  refine HFACT.out.mono ?_
  rintro e w3 ⟨b, off, b0, o0, c0, b1, o1, c1, c, sA, sc, wA, wc, fs, fw, tk, rfl, k0, k1, z0, z1, hlb, hl0, hl1, hb3⟩
  have HB3 := hid (HB2.out.trans (hb3.mono HB2.out.size))
  have HX3 := hid ((hb3.block _ (blk_lt HBX.out)).trans HBX.out)
  clear x0 x1 x2 x3 hlt hb3 HFACT HB2 HBX
  obtain ⟨w4, hw4⟩ : ∃ w4, w4 = w3.alloc (.cells #[.slice (some ⟨b, off, none⟩) 2 c, .int .i64 tk, .slice sA fs sc, .slice wA fw wc] 31) := ⟨_, rfl⟩
  have hb4 : Below w3.heap.size w3 w4 := by rw [hw4]; exact (Below.refl _ _).alloc (Nat.le_refl _) _
  have hq4 : w4.heap[w3.heap.size]? = some (.cells #[.slice (some ⟨b, off, none⟩) 2 c, .int .i64 tk, .slice sA fs sc, .slice wA fw wc] 31 (0, 0)) := by rw [hw4]; exact heap_alloc_new _ _
  have y0 := blk_cell hq4 0
  have ylt := blk_lt hq4
  simp at y0
  replace k0 := (hb4.cell (p := ⟨b, off, none⟩) hlb).trans k0
  replace k1 := (hb4.cell (p := ⟨b, off + 1, none⟩) hlb).trans k1
  replace z0 := (hb4.cell (p := ⟨b0, o0, none⟩) hl0).trans z0
  replace z1 := (hb4.cell (p := ⟨b1, o1, none⟩) hl1).trans z1
  have HB4 := hid (HB3.out.trans (hb4.mono HB3.out.size))
  have HX4 := hid ((hb4.block _ (blk_lt HX3.out)).trans HX3.out)
  have x0 := blk_cell HX4.out 0
  have x1 := blk_cell HX4.out 1
  have x2 := blk_cell HX4.out 2
  have x3 := blk_cell HX4.out 3
  have hlt := blk_lt HX4.out
  simp at x0 x1 x2 x3
  have hlb4 := Nat.lt_of_lt_of_le hlb hb4.size
  have hl04 := Nat.lt_of_lt_of_le hl0 hb4.size
  have hl14 := Nat.lt_of_lt_of_le hl1 hb4.size
  clear hb4 hq4 hlb hl0 hl1 HB3 HX3
  go_upto_region 3 with fail
  rw [← hw4]
  clear hw4
  go_wp2_with fail
  by_cases hok : planChk m.pl = 0 ∧ 0 ≤ r ∧ r < nn
  · obtain ⟨he, hr0, hr1⟩ := hok
    obtain ⟨R, rfl⟩ : ∃ R : Nat, r = R := ⟨r.toNat, by omega⟩
    have hrn : R < m.ros.length := by rw [HNN.out]; omega
    have hg := purge_good w4 m R (HF.out.new HB4.out) (HM.out.new HB4.out) he hrn
    rw [HNN.out, HNS.out, HNW.out] at hg
    refine hg.mono ?_
    clear hg
    rintro e w5 ⟨m1, rfl, hp1, hpl1, _, hb5⟩
    have HE := hid he
    have HRN := hid hrn
    have HB5 := hid (HB4.out.trans (hb5.mono HB4.out.size))
    have hx5 := (hb5.block _ (blk_lt HX4.out)).trans HX4.out
    have hn1 : m1.ros.length = nn := by
      have := congrArg (fun q : Pl => q.code.length) hpl1
      simp only [purge_len] at this
      simpa [PM.pl, HNN.out] using this
    rw [hn1]
    obtain ⟨n1, hnn1⟩ : ∃ n1, m1.spans.length = n1 := ⟨_, rfl⟩
    obtain ⟨n2, hnn2⟩ : ∃ n2, m1.wires.length = n2 := ⟨_, rfl⟩
    rw [hnn1, hnn2]
    obtain ⟨w6, hw6⟩ : ∃ w6, w6 = w5.alloc (.cells #[.slice m1.A nn m1.c, .int .i64 m1.ticks, .slice m1.sA n1 m1.sc, .slice m1.wA n2 m1.wc] 31) := ⟨_, rfl⟩
    have hb6 : Below w5.heap.size w5 w6 := by rw [hw6]; exact (Below.refl _ _).alloc (Nat.le_refl _) _
    have hq6 : w6.heap[w5.heap.size]? = some (.cells #[.slice m1.A nn m1.c, .int .i64 m1.ticks, .slice m1.sA n1 m1.sc, .slice m1.wA n2 m1.wc] 31 (0, 0)) := by rw [hw6]; exact heap_alloc_new _ _
    have HB6 := hid (HB5.out.trans (hb6.mono HB5.out.size))
    have HP1 := hid (hp1.new hb6)
    have HPL1 := hid hpl1
    have HN1 := hid hn1
    have HNN1 := hid hnn1
    have HNN2 := hid hnn2
    have hx6 := (hb6.block _ (blk_lt hx5)).trans hx5
    have HX6 := hid hx6
    have HQ6 := hid hq6
    clear x0 x1 x2 x3 hlt y0 ylt k0 k1 z0 z1 hlb4 hl04 hl14 he hrn hr0 hr1 hb5 hx5 hn1 hnn1 hnn2 hb6 hp1 hpl1
    have x0 := blk_cell hx6 0
    have x1 := blk_cell hx6 1
    have x2 := blk_cell hx6 2
    have x3 := blk_cell hx6 3
    have hlt := blk_lt hx6
    have y0 := blk_cell hq6 0
    have y1 := blk_cell hq6 1
    have y2 := blk_cell hq6 2
    have y3 := blk_cell hq6 3
    have hlty := blk_lt hq6
    simp at x0 x1 x2 x3 y0 y1 y2 y3
    clear hx6 hq6
    by_cases hn : 0 ≤ n ∧ n ≤ 400
    · obtain ⟨N, rfl⟩ : ∃ N : Nat, n = N := ⟨n.toNat, by omega⟩
      have hn400 : N ≤ 400 := by omega
      have hs := purgeSame_good w6 m m1 N R (HF.out.new HB6.out) (HM.out.new HB6.out) HP1.out HE.out (by rw [HPL1.out]; exact purge_chk HE.out R) (by omega) HRN.out (by rw [HN1.out, ← HNN.out]; exact HRN.out)
      rw [HPL1.out, purge_at (planChk_ok HE.out), HNN.out, HNS.out, HNW.out, HN1.out, HNN1.out, HNN2.out] at hs
      unfold SameV at hs
      simp only [errV_zero] at hs
      have HS := hid hs
      clear hs hn
      go_upto_region 6 with fail
      rw [← hw6]
      clear hw6
      go_wp2_with fail
      refine HS.out.mono ?_
      rintro e w7 ⟨rfl, hb7⟩
      have HB7 := hid (HB6.out.trans (hb7.mono HB6.out.size))
      have hq7 := (hb7.block _ (blk_lt HQ6.out)).trans HQ6.out
      clear x0 x1 x2 x3 hlt y0 y1 y2 y3 hlty
      have y0 := blk_cell hq7 0
      have y1 := blk_cell hq7 1
      have y2 := blk_cell hq7 2
      have y3 := blk_cell hq7 3
      have hlty := blk_lt hq7
      simp at y0 y1 y2 y3
      have hck := (plan_check m1 w7 (HF.out.new HB7.out) (HP1.out.new hb7))
      rw [HPL1.out, purge_chk HE.out R, HN1.out, HNN1.out, HNN2.out] at hck
      simp only [errV_zero] at hck
      have HCK := hid hck
      clear hb7 hq7 hck
      go_wp2_with fail
      refine HCK.out.mono ?_
      rintro e w8 ⟨rfl, hb8⟩
      have HB8 := hid (HB7.out.trans (hb8.mono HB7.out.size))
      clear y0 y1 y2 y3 hlty hb8
      go_wp2_with fail
      go_ret
      exact ⟨rfl, HB8.out⟩
    · have hn' : n < 0 ∨ (0 ≤ n ∧ 400 < n) := by omega
      clear hn
      rcases hn' with hn | ⟨hn, hn2⟩
      all_goals
        go_upto_region 6 with fail
        rw [← hw6]
        clear hw6
        go_wp2_with fail
        go_ret
        exact ⟨rfl, HB6.out⟩
  · obtain ⟨E, hE, HBAD⟩ : ∃ E : Int, E ≠ 0 ∧ Hid (Calls Tryd.prog 42 #[.agg #[.slice m.A nn m.c, .int .i64 m.ticks, .slice m.sA ns m.sc, .slice m.wA nw m.wc], .int .i64 r] w4
        fun e w' => e = .returned (.tuple #[.agg #[.slice none 0 0, .int .i64 0, .slice none 0 0, .slice none 0 0], .iface 125 (.int .i64 E)]) ∧ Below w4.heap.size w4 w') := by
      have hnr := HNN.out
      have hns := HNS.out
      have hnw := HNW.out
      by_cases he : planChk m.pl = 0
      · have h := purge_range w4 m r (HF.out.new HB4.out) (HM.out.new HB4.out) he (by omega)
        rw [hnr, hns, hnw, errV_pos (by decide)] at h
        exact ⟨1, by decide, h⟩
      · have h := purge_bad w4 m r (HF.out.new HB4.out) (HM.out.new HB4.out) he
        rw [hnr, hns, hnw, errV_pos he] at h
        exact ⟨_, he, h⟩
    clear hok
    refine HBAD.out.mono ?_
    rintro e w5 ⟨rfl, hb5⟩
    go_wp2_with fail
    go_ret
    exact ⟨rfl, (HB4.out.trans (hb5.mono HB4.out.size)).alloc (by have := hb5.size; have := HB4.out.size; omega) _⟩
end Go.Proofs.YtongkiccglaniaaDoor
