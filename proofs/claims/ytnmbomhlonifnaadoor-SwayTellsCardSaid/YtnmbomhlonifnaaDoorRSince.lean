/- Package frameref2: the contract of Since, for a plan that is right and numbers that may be. -/
import Derived.Test.YtnmbomhlonifnaaDoorRKern
import Derived.Test.YtnmbomhlonifnaaDoorPart
import Derived.Test.YtnmbomhlonifnaaDoorSwayLaw
import Derived.Test.YtnmbomhlonifnaaDoorSameU
import Derived.BigQuiet
namespace Go.Proofs.YtnmbomhlonifnaaDoor
open Go.RowKit
set_option maxRecDepth 100000

abbrev rkT (kb : Nat) (p : Pl) (M : KM) (k : Kst) : Tg := kT 67 132 128 kb p M k
/-- A reference's kernel stands, its plan in older memory. -/
theorem Stand.addR {w0 w w1 : World} {ts : List Tg} {kb : Nat} {p : Pl} {M : KM} {k : Kst} (h : Stand w0 w ts) (hr : RRun w w1 kb p M k) (ho : ∀ j, planF M.P j → j < w0.heap.size) : Stand w0 w1 (ts ++ [rkT kb p M k]) :=
  h.add hr.below (k_lie hr.kat hr.plan) (fun j hj => hr.fresh j (.inl hj)) fun j hj => by
    rcases hj with hj | hj | hj
    · exact .inl (hr.fresh j (.inl hj))
    · exact .inl (hr.fresh j (.inr hj))
    · exact .inr (ho j hj)
/-- Such a kernel's tick. -/
theorem rtick_stand {w0 wr : World} {ts : List Tg} {i kb : Nat} {p : Pl} {M : KM} {k : Kst} {B : Int} (h : Stand w0 wr ts) (hi : ts[i]? = some (rkT kb p M k)) (hp : PlOk p) (hk : KOk p k B) (hB : B < 4611686018427387904) :
    Calls Tryd.prog 40 #[.pointer (some ⟨kb, 0, none⟩)] wr fun e w' => ∃ M', e = .returned (.agg #[.int .i64 (tick p k).1.tick, .int .i64 (tick p k).1.room, .int .i64 (tick p k).1.pc, .int .i64 (tick p k).1.what]) ∧ Stand w0 w' (ts.set i (rkT kb p M' (tick p k).2)) := by
  have hk1 := (h.get hi).here
  refine (rtick_any wr kb M k p B hp hk1.2 hk hB hk1.1).mono ?_
  rintro e w' ⟨M', rfl, h1, h2, h3, h4⟩
  exact ⟨M', rfl, h.go i hi (k_went (h.get hi) h1 h2 h3 h4)⟩
set_option maxHeartbeats 4000000 in
theorem rsince_any (w : World) (m : PM) (hm : PlanAt w m) (he : planChk m.pl = 0) (a c b ticks : Nat) (v : Int) (ha : a < m.ros.length) (hc : c < 6) (hv : 0 ≤ v ∧ v < 1000) (hb : b < m.ros.length) (ht : ticks ≤ 2000) :
    Calls Tryd.prog 29 #[.agg #[.slice m.A m.ros.length m.c, .int .i64 m.ticks, .slice m.sA m.spans.length m.sc, .slice m.wA m.wires.length m.wc], .int .i64 a, .int .i64 c, .int .i64 v, .int .i64 b, .int .i64 ticks] w fun e w' => e = .returned (.int .i64 (sinceOf m.pl a c v b ticks)) ∧ Below w.heap.size w w' := by
  have HNEW : Hid (∀ w', Below w.heap.size w w' → Calls Tryd.prog 21 #[.agg #[.slice m.A m.ros.length m.c, .int .i64 m.ticks, .slice m.sA m.spans.length m.sc, .slice m.wA m.wires.length m.wc]] w' (RNewd w' m)) := fun w' hb => rnew_run w' m (hm.new hb) he
  unfold RNewd at HNEW
  have HP := hid (planChk_ok he)
  have HPF := hid hm.lt
  have hlen : m.pl.code.length = m.ros.length := by simp [PM.pl]
  obtain ⟨p, hp⟩ : ∃ p, p = m.pl := ⟨_, rfl⟩
  rw [← hp] at HNEW HP hlen ⊢
  have hpo : pokeOk (kNew p).rooms.length a c v = true := by
    rw [(kNew_ok HP.out).rooms]
    unfold pokeOk; exact decide_eq_true ⟨by omega, by omega, by omega, by omega, hv⟩
  have HKK : Hid (∀ t : Nat, KOk p (goK p (kNew p) t) t) := fun t => by have := goK_ok HP.out (kNew_ok HP.out) t; rwa [Int.zero_add] at this
  have HKM : Hid (∀ t : Nat, KOk p (goK p (pokeK (kNew p) a c v) t) t) := fun t => by have := goK_ok HP.out (poke_right (kNew_ok HP.out) hpo) t; rwa [Int.zero_add] at this
  obtain ⟨nn, hnn⟩ : ∃ nn, m.ros.length = nn := ⟨_, rfl⟩
  obtain ⟨ns, hns⟩ : ∃ ns, m.spans.length = ns := ⟨_, rfl⟩
  obtain ⟨nw, hnw⟩ : ∃ nw, m.wires.length = nw := ⟨_, rfl⟩
  rw [hnn, hns, hnw] at HNEW
  rw [hnn] at hlen ha hb
  rw [hnn, hns, hnw]
  have h5 : nn ≤ 5 := by have := HP.out.most5; omega
  have HLEN := hid hlen
  obtain ⟨w1, hw1⟩ : ∃ w1, w1 = w.alloc (.cells #[.slice m.A nn m.c, .int .i64 m.ticks, .slice m.sA ns m.sc, .slice m.wA nw m.wc] 31) := ⟨_, rfl⟩
  have hb1 : Below w.heap.size w w1 := by rw [hw1]; exact (Below.refl _ _).alloc (Nat.le_refl _) _
  have hbox : w1.heap[w.heap.size]? = some (.cells #[.slice m.A nn m.c, .int .i64 m.ticks, .slice m.sA ns m.sc, .slice m.wA nw m.wc] 31 (0, 0)) := by rw [hw1]; exact heap_alloc_new w _
  have x0 := blk_cell hbox 0
  have x1 := blk_cell hbox 1
  have x2 := blk_cell hbox 2
  have x3 := blk_cell hbox 3
  have hlt := blk_lt hbox
  simp at x0 x1 x2 x3
  have HB1 := hid hb1
  have HBX := hid hbox
  clear hb1 hbox hm he hnn hns hnw hp hlen hpo
  go_enter Tryd.func29, Tryd.ntmps29
  go_wp2_with fail
  rw [← hw1]
  refine (HNEW.out _ HB1.out).mono ?_
  rintro e w2 ⟨kb, M, rfl, hr2, hM2⟩
  have HST2 := hid (Stand.addR (Stand.nil w1) hr2 (fun j hj => by rw [hM2] at hj; exact Nat.lt_of_lt_of_le (HPF.out j hj) HB1.out.size))
  have hbx2 := (hr2.below.block _ hlt).trans HBX.out
  have HB2 := hid (HB1.out.trans (hr2.below.mono HB1.out.size))
  clear hr2 hM2 x0 x1 x2 x3 hlt hw1
  have x0 := blk_cell hbx2 0
  have x1 := blk_cell hbx2 1
  have x2 := blk_cell hbx2 2
  have x3 := blk_cell hbx2 3
  have hlt := blk_lt hbx2
  simp at x0 x1 x2 x3
  clear hbx2
  go_wp2_with fail
  refine (HNEW.out _ HB2.out).mono ?_
  rintro e w3 ⟨mb, N, rfl, hr3, hM3⟩
  have hst3 : Stand w1 w3 [rkT kb p M (kNew p), rkT mb p N (kNew p)] := Stand.addR HST2.out hr3 (fun j hj => by rw [hM3] at hj; exact Nat.lt_of_lt_of_le (HPF.out j hj) HB1.out.size)
  clear hr3 hM3 x0 x1 x2 x3 hlt HST2
  have hN := (hst3.get (i := 1) rfl).here.1
  obtain ⟨_, _, _, k4, _, _, kf, hmb⟩ := hN.cells
  obtain ⟨s0, hs0⟩ : ∃ s0, (kNew p).rooms[a]? = some s0 := ⟨_, List.getElem?_eq_getElem (by rw [(kNew_ok HP.out).rooms, HLEN.out]; exact ha)⟩
  obtain ⟨rb, roff, hrA, ⟨s0', s1, s2, s3, s4, s5, s6, s7⟩, hrf, hrb, hrkb, hrl, hrc, hrm⟩ := hN.room hs0
  have hput := hN.pokeRoom hrA hs0 hc v
  have hpk : (⟨(kNew p).rooms.set a (s0.put c v), (kNew p).lines, (kNew p).time⟩ : Kst) = pokeK (kNew p) a c v := by
    unfold pokeK
    rw [Int.toNat_natCast, Int.toNat_natCast, List.getD_eq_getElem?_getD, hs0]; rfl
  rw [hpk] at hput
  have hkeep : Keep (KF mb N) w3 (w3.setCell ⟨rb, roff + a * 8 + 1 + c, none⟩ (.int .i64 v)) := (Keep.refl _ _).setCell (.inl (.inr (.inl (by rw [hrA]; rfl)))) _
  have hst4 : Stand w1 (w3.setCell ⟨rb, roff + a * 8 + 1 + c, none⟩ (.int .i64 v)) [rkT kb p M (kNew p), rkT mb p N (pokeK (kNew p) a c v)] := hst3.go 1 rfl (k_went (hst3.get (i := 1) rfl) hput ⟨rfl, rfl⟩ hkeep fun _ hj => .inl hj)
  have HST4 := hid hst4
  have hold : ∃ u, w3.cell? ⟨rb, roff + a * 8 + 1 + c, none⟩ = some u := by
    rcases six hc with rfl | rfl | rfl | rfl | rfl | rfl
    · exact ⟨_, s1⟩
    · exact ⟨_, s2⟩
    · exact ⟨_, s3⟩
    · exact ⟨_, s4⟩
    · exact ⟨_, s5⟩
    · exact ⟨_, s6⟩
  obtain ⟨u, hu⟩ := hold
  have hfz := hrf (roff + a * 8 + 1 + c)
  rw [hrA, (kNew_ok HP.out).rooms, HLEN.out] at k4
  rw [(kNew_ok HP.out).rooms, HLEN.out] at hrc
  unfold maxLen at hrm
  clear hst3 hN hs0 s0' s1 s2 s3 s4 s5 s6 s7 hrf hrA hput hpk hkeep hst4 kf hrl
  have hani : (a : Int) < (nn : Int) := by omega
  go_wp2_with fail
  clear k4 hmb hrb hrkb hrc hrm hu hfz
  go_loopw [15] (fun v15 wr => ∃ (t : Nat) (M N : KM), t ≤ ticks + 1 ∧ v15 = .int .i64 t ∧ Stand w1 wr [rkT kb p M (goK p (kNew p) t), rkT mb p N (goK p (pokeK (kNew p) a c v) t)] ∧ ∀ j, j < t → unlikeK p (kNew p) (pokeK (kNew p) a c v) b j = false) (fun v15 _ => ticks + 1 - (intOf v15).toNat)
  case atStart => exact ⟨0, M, N, by omega, rfl, HST4.out, fun j hj => by omega⟩
  case round =>
    obtain ⟨wo, rfl⟩ : ∃ wo : World, wo = wr := ⟨_, rfl⟩
    obtain ⟨t, M, N, htl, rfl, hst, hno⟩ := hrel
    have HNO := hid hno
    have HST := hid hst
    clear hno HST4
    by_cases htk : t < ticks + 1
    · have hbn : (b : Int) < (nn : Int) := by omega
      have hti : (t : Int) ≤ (ticks : Int) := by omega
      have hM := (hst.get (i := 0) rfl).here.1
      have hN := (hst.get (i := 1) rfl).here.1
      obtain ⟨x, hx⟩ : ∃ x, (goK p (kNew p) t).rooms[b]? = some x := ⟨_, List.getElem?_eq_getElem (by rw [(HKK.out t).rooms, HLEN.out]; exact hb)⟩
      obtain ⟨y, hy⟩ : ∃ y, (goK p (pokeK (kNew p) a c v) t).rooms[b]? = some y := ⟨_, List.getElem?_eq_getElem (by rw [(HKM.out t).rooms, HLEN.out]; exact hb)⟩
      have hun : unlikeK p (kNew p) (pokeK (kNew p) a c v) b t = !stEq x y := by
        unfold unlikeK
        rw [List.getD_eq_getElem?_getD, List.getD_eq_getElem?_getD, hx, hy]; rfl
      obtain ⟨_, _, _, k4, _, _, _, hkb⟩ := hM.cells
      obtain ⟨_, _, _, m4, _, _, _, hmb⟩ := hN.cells
      obtain ⟨rb, roff, hrA, ⟨s0, s1, s2, s3, s4, s5, s6, s7⟩, _, hrb, _, _, hrc, hrm⟩ := hM.room hx
      obtain ⟨qb, qoff, hqA, ⟨u0, u1, u2, u3, u4, u5, u6, u7⟩, _, hqb, _, _, hqc, hqm⟩ := hN.room hy
      rw [hrA, (HKK.out t).rooms, HLEN.out] at k4
      rw [hqA, (HKM.out t).rooms, HLEN.out] at m4
      rw [(HKK.out t).rooms, HLEN.out] at hrc
      rw [(HKM.out t).rooms, HLEN.out] at hqc
      unfold maxLen at hrm hqm
      have hneq : ∀ w, (binOp .neq 43 (.agg #[.int .i64 x.pc, .int .i64 x.c0, .int .i64 x.c1, .int .i64 x.c2, .int .i64 x.c3, .int .i64 x.c4, .int .i64 x.c5, .bool x.failed]) (.agg #[.int .i64 y.pc, .int .i64 y.c0, .int .i64 y.c1, .int .i64 y.c2, .int .i64 y.c3, .int .i64 y.c4, .int .i64 y.c5, .bool y.failed])).run Tryd.prog w = .ok (.bool (!stEq x y)) w := fun w => state_neq x y w
      rw [← hun] at hneq
      obtain ⟨q, hq⟩ : ∃ q, q = unlikeK p (kNew p) (pokeK (kNew p) a c v) b t := ⟨_, rfl⟩
      rw [← hq] at hneq
      have HQ := hid hq
      have hgd := state_guard
      obtain ⟨px, x0, x1, x2, x3, x4, x5, fx⟩ := x
      obtain ⟨py, y0, y1, y2, y3, y4, y5, fy⟩ := y
      simp only [] at hneq s0 s1 s2 s3 s4 s5 s6 s7 u0 u1 u2 u3 u4 u5 u6 u7
      clear hx hy hun hq hst hM hN hrA hqA
      go_upto_region 7 with fail
      go_quiet (fail)
      obtain ⟨wq, hwq⟩ : ∃ wq, wq = wo.drewN nq := ⟨_, rfl⟩
      rw [← hwq]
      have HSQ : Hid (Stand w1 wq [rkT kb p M (goK p (kNew p) t), rkT mb p N (goK p (pokeK (kNew p) a c v) t)]) := by
        rw [hwq]; exact HST.out.new ⟨rfl, rfl, rfl, Nat.le_refl _, fun _ _ => rfl⟩
      clear hwq HST k4 m4 s0 s1 s2 s3 s4 s5 s6 s7 u0 u1 u2 u3 u4 u5 u6 u7 hneq hgd hkb hmb hrb hqb
      cases hqc' : q with
      | true =>
        rw [hqc'] at HQ
        go_wp2_with fail
        go_ret
        exact ⟨by unfold sinceOf; rw [firstOf_hit HQ.out.symm HNO.out (by omega)]; rfl, HB1.out.trans (HSQ.out.below.mono HB1.out.size)⟩
      | false =>
        rw [hqc'] at HQ
        clear hqc'
        go_wp2_with fail
        refine (rtick_stand (i := 0) HSQ.out rfl HP.out (HKK.out t) (by omega)).mono ?_
        rintro e w5 ⟨M5, rfl, hst5⟩
        have HST5 : Hid (Stand w1 w5 [rkT kb p M5 (goK p (kNew p) (t + 1)), rkT mb p N (goK p (pokeK (kNew p) a c v) t)]) := hst5
        clear hst5
        go_wp2_with fail
        refine (rtick_stand (i := 1) HST5.out rfl HP.out (HKM.out t) (by omega)).mono ?_
        rintro e w6 ⟨N6, rfl, hst6⟩
        have HST6 : Hid (Stand w1 w6 [rkT kb p M5 (goK p (kNew p) (t + 1)), rkT mb p N6 (goK p (pokeK (kNew p) a c v) (t + 1))]) := hst6
        clear hst6
        go_wp2_with fail
        go_roundw
        case rel =>
          refine ⟨t + 1, M5, N6, by omega, by go_num, HST6.out, fun j hj => ?_⟩
          by_cases e : j = t
          · subst e; exact HQ.out.symm
          · exact HNO.out j (by omega)
        case measure => simp [intOf]; omega
    · obtain rfl : t = ticks + 1 := by omega
      have hti : ¬ ((ticks : Int) + 1 ≤ (ticks : Int)) := by omega
      go_wp2_with fail
      go_ret
      exact ⟨by unfold sinceOf; rw [firstOf_none HNO.out]; rfl, HB1.out.trans (HST.out.below.mono HB1.out.size)⟩
end Go.Proofs.YtnmbomhlonifnaaDoor
