/- The walk of framelaw3.SwayFlows: it returns true at every input. -/
import Derived.Test.YtnmbomhlonifnaaDoorSwayW
import Derived.Test.YtnmbomhlonifnaaDoorFlow
namespace Go.Proofs.YtnmbomhlonifnaaDoor
open Go.RowKit
set_option maxRecDepth 100000

/-- Two rooms that rest, as the law lays them. -/
def rest2PM (s : Nat) : PM := ⟨some ⟨s + 1 + 1, 0, none⟩, 2, [⟨some ⟨s, 0, none⟩, 1, [⟨10, 0, 0⟩]⟩, ⟨some ⟨s + 1, 0, none⟩, 1, [⟨10, 0, 0⟩]⟩], 1, none, 0, [], none, 0, []⟩
theorem rest2_plan {w : World} {s t1 t2 : Nat} (h1 : w.heap[s]? = some (.cells #[.int .i64 10, .int .i64 0, .int .i64 0] t1 (0, 0))) (h2 : w.heap[s + 1]? = some (.cells #[.int .i64 10, .int .i64 0, .int .i64 0] t1 (0, 0)))
    (h3 : w.heap[s + 1 + 1]? = some (.cells #[.slice (some ⟨s, 0, none⟩) 1 1, .slice (some ⟨s + 1, 0, none⟩) 1 1] t2 (0, 0))) : PlanAt w (rest2PM s) := by
  have hop : ∀ o ∈ [(⟨10, 0, 0⟩ : Op)], o.Ok := fun o ho => by
    simp at ho; subst ho
    refine ⟨⟨?_, ?_⟩, ⟨?_, ?_⟩, ⟨?_, ?_⟩⟩ <;> decide
  refine ⟨sl_blk h3 1 2 _ rfl rfl, lit_slW _ 2 (by omega), fun r hr => ?_, fits_lit (by simp [rest2PM]), Sl.nil _ _ _, ⟨Nat.le_refl _, Nat.zero_le _, fun _ => ⟨rfl, rfl⟩⟩, fun y hy => by simp [rest2PM] at hy, Sl.nil _ _ _, ⟨Nat.le_refl _, Nat.zero_le _, fun _ => ⟨rfl, rfl⟩⟩, fun y hy => by simp [rest2PM] at hy⟩
  simp [rest2PM] at hr
  rcases hr with rfl | rfl
  · exact ⟨sl_blk h1 3 1 _ rfl rfl, lit_slW _ 1 (by omega), hop⟩
  · exact ⟨sl_blk h2 3 1 _ rfl rfl, lit_slW _ 1 (by omega), hop⟩
theorem rest2_since {w : World} {s : Nat} (hf : Forms w) (h : PlanAt w (rest2PM s)) (b : Int) (v : Int) (he : swayE rest2Pl 0 0 5 b 3 = 0) (hv : swayV rest2Pl 0 0 5 b 3 = v) :
    Calls Tryd.prog 27 #[.agg #[.slice (some ⟨s + 1 + 1, 0, none⟩) 2 2, .int .i64 1, .slice none 0 0, .slice none 0 0], .int .i64 0, .int .i64 0, .int .i64 5, .int .i64 b, .int .i64 3] w fun e w' => e = .returned (.tuple #[.int .i64 v, .nilIface]) ∧ Below w.heap.size w w' := by
  have hc := swaySince_any w (rest2PM s) 0 0 5 b 3 hf h
  unfold SinceV at hc
  rw [show (rest2PM s).pl = rest2Pl from rfl, he, hv, errV_zero] at hc
  exact hc
set_option maxHeartbeats 2000000 in
theorem swayFlows_walk {w : World} (hf : Forms w) (m : PM) (hm : PlanAt w m) (a c v b t : Int) :
    Calls Tryd.prog 7 #[.agg #[.slice m.A m.ros.length m.c, .int .i64 m.ticks, .slice m.sA m.spans.length m.sc, .slice m.wA m.wires.length m.wc], .int .i64 a, .int .i64 c, .int .i64 v, .int .i64 b, .int .i64 t] w fun e w' => e = .returned (.bool true) ∧ Below w.heap.size w w' := by
  have HF := hid hf
  have HSI : Hid (∀ w' t, Below w.heap.size w w' → Calls Tryd.prog 27 #[.agg #[.slice m.A m.ros.length m.c, .int .i64 m.ticks, .slice m.sA m.spans.length m.sc, .slice m.wA m.wires.length m.wc], .int .i64 a, .int .i64 c, .int .i64 v, .int .i64 b, .int .i64 t] w' (SinceV w' (swayV m.pl a c v b t) (swayE m.pl a c v b t))) := fun w' t hb => swaySince_any w' m a c v b t (hf.new hb) (hm.new hb)
  have HRE : Hid (∀ w', Below w.heap.size w w' → Calls Tryd.prog 28 #[.slice m.wA m.wires.length m.wc, .int .i64 a, .int .i64 b] w' (TellB w' (reachOf m.pl.wires a b))) := fun w' hb => reach_any a b m.wA m.wc m.wires w' (hm.new hb).wires hm.wiresW
  have hlen : m.pl.code.length = m.ros.length := by simp [PM.pl]
  generalize m.pl = p at HSI HRE hlen
  obtain ⟨nn, hnn⟩ : ∃ nn, nn = m.ros.length := ⟨_, rfl⟩
  obtain ⟨ns, hns⟩ : ∃ ns, ns = m.spans.length := ⟨_, rfl⟩
  obtain ⟨nw, hnw⟩ : ∃ nw, nw = m.wires.length := ⟨_, rfl⟩
  rw [← hnn] at hlen
  rw [← hnn, ← hns, ← hnw] at HSI ⊢
  rw [← hnw] at HRE
  have HLEN := hid hlen
  obtain ⟨w5, hw5⟩ : ∃ w5, w5 = (((((w.alloc (.cells #[.slice m.A nn m.c, .int .i64 m.ticks, .slice m.sA ns m.sc, .slice m.wA nw m.wc] 31)).alloc (.cells #[.int .i64 10, .int .i64 0, .int .i64 0] 23)).alloc (.cells #[.int .i64 10, .int .i64 0, .int .i64 0] 23)).alloc (.cells #[.slice (some ⟨w.heap.size + 1, 0, none⟩) 1 1, .slice (some ⟨w.heap.size + 1 + 1, 0, none⟩) 1 1] 24)).alloc (.cells #[.slice (some ⟨w.heap.size + 1 + 1 + 1, 0, none⟩) 2 2, .int .i64 1, .slice none 0 0, .slice none 0 0] 31)) := ⟨_, rfl⟩
  have hblk : w5.heap[w.heap.size]? = some (.cells #[.slice m.A nn m.c, .int .i64 m.ticks, .slice m.sA ns m.sc, .slice m.wA nw m.wc] 31 (0, 0)) ∧ w5.heap[w.heap.size + 1]? = some (.cells #[.int .i64 10, .int .i64 0, .int .i64 0] 23 (0, 0)) ∧ w5.heap[w.heap.size + 1 + 1]? = some (.cells #[.int .i64 10, .int .i64 0, .int .i64 0] 23 (0, 0)) ∧
      w5.heap[w.heap.size + 1 + 1 + 1]? = some (.cells #[.slice (some ⟨w.heap.size + 1, 0, none⟩) 1 1, .slice (some ⟨w.heap.size + 1 + 1, 0, none⟩) 1 1] 24 (0, 0)) ∧ w5.heap[w.heap.size + 1 + 1 + 1 + 1]? = some (.cells #[.slice (some ⟨w.heap.size + 1 + 1 + 1, 0, none⟩) 2 2, .int .i64 1, .slice none 0 0, .slice none 0 0] 31 (0, 0)) := by
    rw [hw5]
    simp only [hp_alloc, sz_alloc]
    refine ⟨?_, ?_, ?_, ?_, ?_⟩
    all_goals (repeat (first | rw [if_pos True.intro] | rw [if_pos rfl] | rw [if_neg (by omega)]))
  have hb5 : Below w.heap.size w w5 := by rw [hw5]; exact (((((Below.refl _ _).alloc (Nat.le_refl _) _).alloc (by simp) _).alloc (by simp; omega) _).alloc (by simp; omega) _).alloc (by simp; omega) _
  obtain ⟨b0, b1, b2, b3, b4⟩ := hblk
  have HPL := hid (rest2_plan b1 b2 b3)
  have HB5 := hid hb5
  have HX := hid b0
  have HY := hid b4
  clear hm hf hnn hns hnw hlen b1 b2 b3 hb5
  have x0 := blk_cell b0 0
  have x1 := blk_cell b0 1
  have x2 := blk_cell b0 2
  have x3 := blk_cell b0 3
  have hlx := blk_lt b0
  have y0 := blk_cell b4 0
  have y1 := blk_cell b4 1
  have y2 := blk_cell b4 2
  have y3 := blk_cell b4 3
  have hly := blk_lt b4
  simp at x0 x1 x2 x3 y0 y1 y2 y3
  clear b0 b4
  obtain ⟨f1, f2, f3, f4⟩ := rest2_fact
  have HC1 := hid (rest2_since (HF.out.new HB5.out) HPL.out 0 0 f1 f2)
  have HC2 : Hid (∀ w', Below w5.heap.size w5 w' → Calls Tryd.prog 27 #[.agg #[.slice (some ⟨w.heap.size + 1 + 1 + 1, 0, none⟩) 2 2, .int .i64 1, .slice none 0 0, .slice none 0 0], .int .i64 0, .int .i64 0, .int .i64 5, .int .i64 1, .int .i64 3] w' fun e w'' => e = .returned (.tuple #[.int .i64 (-1), .nilIface]) ∧ Below w'.heap.size w' w'') := fun w' hb => rest2_since (HF.out.new (HB5.out.trans (hb.mono HB5.out.size))) (HPL.out.new hb) 1 (-1) f3 f4
  clear f1 f2 f3 f4
  go_enter Tryd.func7, Tryd.ntmps7
  go_wp2_with fail
  rw [← hw5]
  refine HC1.out.mono ?_
  rintro e w6 ⟨rfl, hb6⟩
  have gx := (hb6.block _ hlx).trans HX.out
  have gy := (hb6.block _ hly).trans HY.out
  have HB6 := hid hb6
  clear hb6 x0 x1 x2 x3 y0 y1 y2 y3 hlx hly hw5
  have x0 := blk_cell gx 0
  have x1 := blk_cell gx 1
  have x2 := blk_cell gx 2
  have x3 := blk_cell gx 3
  have hlx := blk_lt gx
  have y0 := blk_cell gy 0
  have y1 := blk_cell gy 1
  have y2 := blk_cell gy 2
  have y3 := blk_cell gy 3
  have hly := blk_lt gy
  simp at x0 x1 x2 x3 y0 y1 y2 y3
  clear gx gy
  go_wp2_with fail
  refine (HC2.out _ HB6.out).mono ?_
  rintro e w7 ⟨rfl, hb7⟩
  have HB7 := hid (HB6.out.trans (hb7.mono HB6.out.size))
  have gx := (HB7.out.block _ (blk_lt HX.out)).trans HX.out
  have HBW := hid (HB5.out.trans (HB7.out.mono HB5.out.size))
  clear hb7 x0 x1 x2 x3 y0 y1 y2 y3 hlx hly HC1 HC2 HPL HY
  have x0 := blk_cell gx 0
  have x1 := blk_cell gx 1
  have x2 := blk_cell gx 2
  have x3 := blk_cell gx 3
  have hlx := blk_lt gx
  simp at x0 x1 x2 x3
  clear gx
  by_cases ht150 : 150 < t
  · go_wp2_with fail
    go_ret
    exact ⟨rfl, HBW.out⟩
  have ht1 : t ≤ 150 := by omega
  clear ht150
  by_cases he : swayE p a c v b t = 0
  · have hs := HSI.out w7 t HBW.out
    unfold SinceV at hs
    rw [he, errV_zero] at hs
    obtain ⟨e1, e2, e3, e4, e5, e6⟩ := swayE_zero he
    obtain ⟨B, rfl⟩ : ∃ B : Nat, b = B := ⟨b.toNat, by omega⟩
    obtain ⟨T, rfl⟩ : ∃ T : Nat, t = T := ⟨t.toNat, by omega⟩
    have hp := planChk_ok e1
    have h5 := hp.most5
    have he2 : swayE p a c v B (T + 10) = 0 := swayE_of e1 e2 ⟨e3, e4, by omega, by omega⟩
    have hfl := (flowChk_ok hp.flow)
    have hre : reachOf p.wires a B = (reachB p.wires a.toNat B, 0) := by
      have h2 : 0 ≤ a ∧ a < p.code.length ∧ 0 ≤ c ∧ c < 6 ∧ 0 ≤ v ∧ v < 1000 := by simpa [pokeOk] using e2
      unfold reachOf roomB
      rw [if_neg (fun h => h hp.flow), if_neg (by simp; omega), Int.toNat_natCast]
    obtain ⟨q, hq⟩ : ∃ q, q = sinceOf p a c v B T := ⟨_, rfl⟩
    have hq2 : 0 ≤ q → sinceOf p a c v B (T + 10) = q := fun h => by rw [hq] at h ⊢; exact since_more h (by omega)
    have hq3 : 0 ≤ q → reachB p.wires a.toNat B = true := fun h => reachB_iff.2 (since_flows hp e2 (by rw [hq] at h; exact h))
    have hq4 : q ≤ T := by rw [hq]; exact (since_ge p a c v B T).2
    have hq5 : -1 ≤ q := by rw [hq]; exact (since_ge p a c v B T).1
    rw [swayV_nat he, ← hq] at hs
    have hs2 : ∀ w', Below w.heap.size w w' → Calls Tryd.prog 27 #[.agg #[.slice m.A nn m.c, .int .i64 m.ticks, .slice m.sA ns m.sc, .slice m.wA nw m.wc], .int .i64 a, .int .i64 c, .int .i64 v, .int .i64 B, .int .i64 ((T : Int) + 10)] w' fun e w'' => e = .returned (.tuple #[.int .i64 (sinceOf p a c v B (T + 10)), .nilIface]) ∧ Below w'.heap.size w' w'' := fun w' hb => by
      have h := HSI.out w' ((T : Int) + 10) hb
      unfold SinceV at h
      rw [he2, errV_zero, show ((T : Int) + 10) = ((T + 10 : Nat) : Int) by omega, swayV_nat (by rw [show ((T + 10 : Nat) : Int) = (T : Int) + 10 by omega]; exact he2)] at h
      rw [show ((T : Int) + 10) = ((T + 10 : Nat) : Int) by omega]
      exact h
    have hr : ∀ w', Below w.heap.size w w' → Calls Tryd.prog 28 #[.slice m.wA nw m.wc, .int .i64 a, .int .i64 B] w' fun e w'' => e = .returned (.tuple #[.bool (reachB p.wires a.toNat B), .nilIface]) ∧ Below w'.heap.size w' w'' := fun w' hb => by
      have h := HRE.out w' hb
      unfold TellB at h
      rw [hre, errV_zero] at h
      exact h
    obtain ⟨u, hu⟩ : ∃ u, u = sinceOf p a c v B (T + 10) := ⟨_, rfl⟩
    obtain ⟨f, hf⟩ : ∃ f, f = reachB p.wires a.toNat B := ⟨_, rfl⟩
    rw [← hu] at hq2 hs2
    rw [← hf] at hq3 hr
    have HS2 := hid hs2
    have HR := hid hr
    have HQ2 := hid hq2
    have HQ3 := hid hq3
    clear hs2 hr hq2 hq3 hre hfl h5 hp he2 he e1 e2 e3 e4 e5 e6 hq hu hf HSI HRE
    go_wp2_with fail
    refine hs.mono ?_
    clear hs
    rintro e w8 ⟨rfl, hb8⟩
    have HB8 := hid (HBW.out.trans (hb8.mono HBW.out.size))
    have gx := ((HB7.out.trans (hb8.mono HB7.out.size)).block _ (blk_lt HX.out)).trans HX.out
    have HX8 := hid gx
    clear hb8 x0 x1 x2 x3 hlx
    have x3 := blk_cell gx 3
    have hlx := blk_lt gx
    simp at x3
    clear gx
    go_wp2_with fail
    refine (HR.out _ HB8.out).mono ?_
    rintro e w9 ⟨rfl, hb9⟩
    have HB9 := hid (HB8.out.trans (hb9.mono HB8.out.size))
    have gx := (hb9.block _ hlx).trans HX8.out
    clear hb9 x3 hlx
    have x0 := blk_cell gx 0
    have x1 := blk_cell gx 1
    have x2 := blk_cell gx 2
    have x3 := blk_cell gx 3
    have hlx := blk_lt gx
    simp at x0 x1 x2 x3
    clear gx
    by_cases h0 : 0 ≤ q
    · have hft := HQ3.out h0
      have hut := HQ2.out h0
      subst hft hut
      go_wp2_with fail
      refine (HS2.out _ HB9.out).mono ?_
      rintro e w10 ⟨rfl, hb10⟩
      have HB10 := hid (HB9.out.trans (hb10.mono HB9.out.size))
      clear hb10 x0 x1 x2 x3 hlx
      go_wp2_with fail
      go_ret
      exact ⟨rfl, HB10.out⟩
    · obtain rfl : q = -1 := by omega
      go_wp2_with fail
      refine (HS2.out _ HB9.out).mono ?_
      rintro e w10 ⟨rfl, hb10⟩
      have HB10 := hid (HB9.out.trans (hb10.mono HB9.out.size))
      clear hb10 x0 x1 x2 x3 hlx
      go_wp2_with fail
      go_ret
      exact ⟨rfl, HB10.out⟩
  · have hs := HSI.out w7 t HBW.out
    unfold SinceV at hs
    rw [errV_pos he] at hs
    clear he
    go_wp2_with fail
    refine hs.mono ?_
    clear hs
    rintro e w8 ⟨rfl, hb8⟩
    have HB8 := hid (HBW.out.trans (hb8.mono HBW.out.size))
    clear hb8 x0 x1 x2 x3 hlx
    go_wp2_with fail
    go_ret
    exact ⟨rfl, HB8.out⟩
end Go.Proofs.YtnmbomhlonifnaaDoor
