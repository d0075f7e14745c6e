/- The walk of frametop.TopApart: it returns true at every input. -/
import Derived.Test.YtongkiccglaniaaDoorSpreadGet
import Derived.Test.YtongkiccglaniaaDoorTopOne
import Derived.Test.YtongkiccglaniaaDoorSwayW
import Derived.Test.YtongkiccglaniaaDoorPurgeU
import Derived.Test.YtongkiccglaniaaDoorLevels
import Derived.Test.YtongkiccglaniaaDoorSameU
namespace Go.Proofs.YtongkiccglaniaaDoor
open Go.RowKit
set_option maxRecDepth 100000

theorem reach_up {l : List Wire} {lv : List Int} (h : l.any (leadsDown lv) = false) {a b : Nat} (r : Reach l a b) : lv.getD a 0 ≤ lv.getD b 0 := by
  induction r with
  | refl => exact Int.le_refl _
  | step _ e ih =>
    obtain ⟨x, hx, h1, h2⟩ := e
    have := List.any_eq_false.1 h x hx
    simp [leadsDown, h1, h2] at this
    simp at ih ⊢
    omega
theorem room_at {k : Kst} {R : Nat} {s : St} (h : k.rooms[R]? = some s) : stateOf k (R : Int) = (s, 0) := by
  have hl := (List.getElem?_eq_some_iff.1 h).1
  unfold stateOf inB
  rw [if_pos (decide_eq_true (by omega)), Int.toNat_natCast, List.getD_eq_getElem?_getD, h]; rfl

set_option maxHeartbeats 8000000 in
theorem topApart_walk {w : World} (hf : Forms w) (m : PM) (hm : PlanAt w m) (LA : Option Addr) (lc : Nat) (xs : List Int) (hs : Sl w LA 1 xs.length (xs.flatMap fun a => [.int .i64 a])) (hsw : SlW LA lc xs.length) (a c v b t : Int) :
    Calls Tryd.prog 14 #[.agg #[.slice m.A m.ros.length m.c, .int .i64 m.ticks, .slice m.sA m.spans.length m.sc, .slice m.wA m.wires.length m.wc], .slice LA xs.length lc, .int .i64 a, .int .i64 c, .int .i64 v, .int .i64 b, .int .i64 t] w fun e w' => e = .returned (.bool true) ∧ Below w.heap.size w w' := by
  have HF := hid hf
  have HM := hid hm
  have HS := hid hs
  have HSW := hid hsw
  obtain ⟨w1, hw1⟩ : ∃ w1, w1 = w.alloc (.cells #[.slice m.A m.ros.length m.c, .int .i64 m.ticks, .slice m.sA m.spans.length m.sc, .slice m.wA m.wires.length m.wc] 31) := ⟨_, rfl⟩
  have hb1 : Below w.heap.size w w1 := by rw [hw1]; exact (Below.refl _ _).alloc (Nat.le_refl _) _
  have hbox : w1.heap[w.heap.size]? = some (.cells #[.slice m.A m.ros.length m.c, .int .i64 m.ticks, .slice m.sA m.spans.length m.sc, .slice m.wA m.wires.length m.wc] 31 (0, 0)) := by rw [hw1]; exact heap_alloc_new w _
  obtain ⟨nl, hnl⟩ : ∃ nl, xs.length = nl := ⟨_, rfl⟩
  obtain ⟨nn, hnn⟩ : ∃ nn, m.ros.length = nn := ⟨_, rfl⟩
  obtain ⟨ns, hns⟩ : ∃ ns, m.spans.length = ns := ⟨_, rfl⟩
  obtain ⟨nw, hnw⟩ : ∃ nw, m.wires.length = nw := ⟨_, rfl⟩
  rw [hnn, hns, hnw] at hw1 hbox ⊢
  rw [hnl]
  have HNL := hid hnl
  have HNN := hid hnn
  have HNS := hid hns
  have HNW := hid hnw
  have HB1 := hid hb1
  have hone := top_one (hf.new hb1)
  have HXC : Hid (∀ w', Below w1.heap.size w1 w' → w'.cell? ⟨w.heap.size, 0, none⟩ = some (.slice m.A nn m.c) ∧ w'.cell? ⟨w.heap.size, 1, none⟩ = some (.int .i64 m.ticks) ∧ w'.cell? ⟨w.heap.size, 2, none⟩ = some (.slice m.sA ns m.sc) ∧ w'.cell? ⟨w.heap.size, 3, none⟩ = some (.slice m.wA nw m.wc) ∧ w.heap.size < w'.heap.size) := fun w' hb => by
    have h := (hb.block _ (blk_lt hbox)).trans hbox
    exact ⟨blk_cell h 0, blk_cell h 1, blk_cell h 2, blk_cell h 3, blk_lt h⟩
  have HCK : Hid (∀ w', Below w.heap.size w w' → Calls Tryd.prog 44 #[.agg #[.slice m.A nn m.c, .int .i64 m.ticks, .slice m.sA ns m.sc, .slice m.wA nw m.wc]] w' fun e w'' => e = .returned (errV (planChk m.pl)) ∧ Below w'.heap.size w' w'') := fun w' hb => by
    have h := plan_check m w' (hf.new hb) (hm.new hb)
    rw [hnn, hns, hnw] at h
    exact h
  clear hf hm hs hsw hnl hnn hns hnw hb1 hbox
  go_enter Tryd.func14, Tryd.ntmps14
  go_wp2_with fail
  rw [← hw1]
  refine hone.mono ?_
  clear hone hw1
  rintro e w2 ⟨rfl, hb2⟩
  obtain ⟨x0, x1, x2, x3, hlx⟩ := HXC.out _ hb2
  have HB2 := hid hb2
  have HW2 := hid (HB1.out.trans (hb2.mono HB1.out.size))
  clear hb2
  go_wp2_with fail
  refine (HCK.out _ HW2.out).mono ?_
  by_cases he : planChk m.pl = 0
  · rw [he, errV_zero]
    rintro e w3 ⟨rfl, hb3⟩
    have HB3 := hid (HB2.out.trans (hb3.mono HB2.out.size))
    clear hb3 x0 x1 x2 x3 hlx
    obtain ⟨x0, x1, x2, x3, hlx⟩ := HXC.out _ HB3.out
    have HW3 := hid (HB1.out.trans (HB3.out.mono HB1.out.size))
    have hn5 : nn ≤ 5 := by have := (planSmall he).ros; rw [HNN.out] at this; exact this
    by_cases hok : 0 ≤ t ∧ t ≤ 120 ∧ 0 ≤ b ∧ b < nn
    · obtain ⟨ht0, ht1, hb0, hbn⟩ := hok
      obtain ⟨T, rfl⟩ : ∃ T : Nat, t = T := ⟨t.toNat, by omega⟩
      obtain ⟨R, rfl⟩ : ∃ R : Nat, b = R := ⟨b.toNat, by omega⟩
      have hT : T ≤ 120 := by omega
      have hRn : R < nn := by omega
      have HP := hid (planChk_ok he)
      have HE := hid he
      have hpg := purge_good w3 m R (HF.out.new HW3.out) (HM.out.new HW3.out) he (by rw [HNN.out]; exact hRn)
      unfold Purged at hpg
      rw [HNN.out, HNS.out, HNW.out] at hpg
      clear he
      go_wp2_with fail
      refine hpg.mono ?_
      clear hpg
      rintro e w4 ⟨m', rfl, hm', hpl', _, hb4⟩
      obtain ⟨nn', hnn'⟩ : ∃ nn', m'.ros.length = nn' := ⟨_, rfl⟩
      obtain ⟨ns', hns'⟩ : ∃ ns', m'.spans.length = ns' := ⟨_, rfl⟩
      obtain ⟨nw', hnw'⟩ : ∃ nw', m'.wires.length = nw' := ⟨_, rfl⟩
      rw [hnn', hns', hnw']
      obtain ⟨w5, hw5⟩ : ∃ w5, w5 = w4.alloc (.cells #[.slice m'.A nn' m'.c, .int .i64 m'.ticks, .slice m'.sA ns' m'.sc, .slice m'.wA nw' m'.wc] 31) := ⟨_, rfl⟩
      have hb5 : Below w4.heap.size w4 w5 := by rw [hw5]; exact (Below.refl _ _).alloc (Nat.le_refl _) _
      have hq5 : w5.heap[w4.heap.size]? = some (.cells #[.slice m'.A nn' m'.c, .int .i64 m'.ticks, .slice m'.sA ns' m'.sc, .slice m'.wA nw' m'.wc] 31 (0, 0)) := by rw [hw5]; exact heap_alloc_new _ _
      have HB5 := hid (HB3.out.trans ((hb4.trans (hb5.mono hb4.size)).mono HB3.out.size))
      have HW5 := hid (HB1.out.trans (HB5.out.mono HB1.out.size))
      have hnew := spread_good (HF.out.new HW5.out) (hm'.new hb5) (by rw [hpl']; exact purge_chk HE.out R)
      unfold SNew at hnew
      rw [hnn', hns', hnw', hpl'] at hnew
      have HNEW := hid hnew
      have z0 := blk_cell hq5 0
      have z1 := blk_cell hq5 1
      have z2 := blk_cell hq5 2
      have z3 := blk_cell hq5 3
      have hlz := blk_lt hq5
      simp at z0 z1 z2 z3
      clear hnew hb4 hb5 hq5 hm' hpl' hnn' hns' hnw' x0 x1 x2 x3 hlx
      obtain ⟨x0, x1, x2, x3, hlx⟩ := HXC.out _ HB5.out
      go_upto_region 9 with fail
      rw [← hw5]
      clear hw5
      go_wp2_with fail
      refine HNEW.out.mono ?_
      rintro e w6 ⟨sb, S, rfl, hst, _⟩
      have HST6 := hid hst
      have HB6 := hid (HB5.out.trans (hst.below.mono HB5.out.size))
      have HW6 := hid (HB1.out.trans (HB6.out.mono HB1.out.size))
      clear hst HNEW x0 x1 x2 x3 hlx z0 z1 z2 z3 hlz
      obtain ⟨x0, x1, x2, x3, hlx⟩ := HXC.out _ HB6.out
      have hk := new_run w6 m (HF.out.new HW6.out) (HM.out.new HW6.out) HE.out
      unfold KNew at hk
      rw [HNN.out, HNS.out, HNW.out] at hk
      go_wp2_with fail
      refine hk.mono ?_
      clear hk
      rintro e w7 ⟨kb, M, rfl, hr7⟩
      have hst7 := HST6.out.add (t := kT 152 201 145 kb m.pl M (runK m.pl 0)) hr7.below (k_lie hr7.kat hr7.plan) (fun j hj => hr7.fresh j (.inl hj)) (fun j hj => .inl (hr7.fresh j hj))
      have HST7 : Hid (Stand w5 w7 [spreadT sb (purgePl m.pl R) S (runK (purgePl m.pl R) 0), kT 152 201 145 kb m.pl M (runK m.pl 0)]) := hst7
      have HPQ := hid (purge_ok HP.out R)
      have HLC : Hid (m.pl.code.length = nn) := by show m.pl.code.length = nn; rw [← HNN.out]; simp [PM.pl]
      clear hr7 hst7 HST6 x0 x1 x2 x3 hlx
      go_wp2_with fail
      go_loopw [22] (fun v22 wr => ∃ (i : Nat) (S : SM) (M : KM), i ≤ T ∧ v22 = .int .i64 i ∧ Stand w5 wr [spreadT sb (purgePl m.pl R) S (runK (purgePl m.pl R) i), kT 152 201 145 kb m.pl M (runK m.pl i)]) (fun v22 _ => T - (intOf v22).toNat)
      case atStart => exact ⟨0, S, M, by omega, rfl, HST7.out⟩
      case round =>
        obtain ⟨wo, rfl⟩ : ∃ wo : World, wo = wr := ⟨_, rfl⟩
        obtain ⟨i, S, M, hi, rfl, hst⟩ := hrel
        have HSR := hid hst
        clear hst
        by_cases hiT : i < T
        · have htk := stick_stand (i := 0) HSR.out rfl (HF.out.new HW5.out) HPQ.out (runK_ok HPQ.out i) (by omega)
          go_wp2_with fail
          refine htk.mono ?_
          clear htk
          rintro e w9 ⟨S', rfl, hst⟩
          have HS9 : Hid (Stand w5 w9 [spreadT sb (purgePl m.pl R) S' (runK (purgePl m.pl R) (i + 1)), kT 152 201 145 kb m.pl M (runK m.pl i)]) := hst
          clear hst
          go_wp2_with fail
          have hkk := (HS9.out.get (i := 1) rfl).here
          refine (ktick_any w9 kb M (runK m.pl i) m.pl i HP.out hkk.2 (runK_ok HP.out i) (by omega) hkk.1).mono ?_
          clear hkk
          rintro e w10 ⟨M', rfl, h1, h2, h3, h4⟩
          have HS10 : Hid (Stand w5 w10 [spreadT sb (purgePl m.pl R) S' (runK (purgePl m.pl R) (i + 1)), kT 152 201 145 kb m.pl M' (runK m.pl (i + 1))]) := HS9.out.go 1 rfl (k_went (HS9.out.get (i := 1) rfl) h1 h2 h3 h4)
          clear h1 h2 h3 h4 HS9 HSR
          have hok1 := runK_ok HP.out (i + 1)
          have hok2 := runK_ok HPQ.out (i + 1)
          obtain ⟨s, hs1⟩ : ∃ s, (runK m.pl (i + 1)).rooms[R]? = some s := ⟨_, List.getElem?_eq_getElem (by rw [hok1.rooms, HLC.out]; exact hRn)⟩
          have hs2 : (runK (purgePl m.pl R) (i + 1)).rooms[R]? = some s := by rw [← purge_same HP.out R (i + 1)]; exact hs1
          have hc1 := sstate_any (HS10.out.get (i := 0) rfl).here (by rw [hok2.rooms, purge_len, HLC.out]; exact hn5) (R : Int)
          have HC2 : Hid (∀ w', Below w10.heap.size w10 w' → Calls Tryd.prog 30 #[.pointer (some ⟨kb, 0, none⟩), .int .i64 R] w' (StateV w' (s, 0))) := fun w' hb => by
            have h := kstate_any (R : Int) (by rw [hok1.rooms, HLC.out]; exact hn5) ((HS10.out.new hb).get (i := 1) rfl).here.1
            rw [room_at hs1] at h
            exact h
          rw [room_at hs2] at hc1
          have hsn : ∀ w, (binOp .neq 40 (.agg #[.int .i64 s.pc, .int .i64 s.c0, .int .i64 s.c1, .int .i64 s.c2, .int .i64 s.c3, .int .i64 s.c4, .int .i64 s.c5, .bool s.failed]) (.agg #[.int .i64 s.pc, .int .i64 s.c0, .int .i64 s.c1, .int .i64 s.c2, .int .i64 s.c3, .int .i64 s.c4, .int .i64 s.c5, .bool s.failed])).run Tryd.prog w = .ok (.bool false) w := fun w => by
            have := state_neq s s w
            rw [stEq_refl] at this; exact this
          have hgs := state_guard
          clear hs1 hs2 hok1 hok2
          obtain ⟨p0, s0, s1, s2, s3, s4, s5, sf⟩ := s
          unfold StateV stV at hc1 HC2
          simp only [errV_zero] at hc1 HC2 hsn
          go_wp2_with fail
          refine hc1.mono ?_
          clear hc1
          rintro e w11 ⟨rfl, hb11⟩
          have HB11 := hid (hb11.alloc hb11.size (.cells #[.int .i64 p0, .int .i64 s0, .int .i64 s1, .int .i64 s2, .int .i64 s3, .int .i64 s4, .int .i64 s5, .bool sf] 40))
          have HX11 := hid (heap_alloc_new w11 (.cells #[.int .i64 p0, .int .i64 s0, .int .i64 s1, .int .i64 s2, .int .i64 s3, .int .i64 s4, .int .i64 s5, .bool sf] 40))
          clear hb11
          go_wp2_with fail
          refine (HC2.out _ HB11.out).mono ?_
          rintro e w12 ⟨rfl, hb12⟩
          have h11 := (hb12.block _ (blk_lt HX11.out)).trans HX11.out
          have u0 := blk_cell h11 0
          have u1 := blk_cell h11 1
          have u2 := blk_cell h11 2
          have u3 := blk_cell h11 3
          have u4 := blk_cell h11 4
          have u5 := blk_cell h11 5
          have u6 := blk_cell h11 6
          have u7 := blk_cell h11 7
          have ul := blk_lt h11
          simp at u0 u1 u2 u3 u4 u5 u6 u7
          have HB12 := hid ((HB11.out.trans (hb12.mono HB11.out.size)).alloc (HB11.out.trans (hb12.mono HB11.out.size)).size (.cells #[.int .i64 p0, .int .i64 s0, .int .i64 s1, .int .i64 s2, .int .i64 s3, .int .i64 s4, .int .i64 s5, .bool sf] 40))
          clear h11 hb12 HX11 HB11
          go_wp2_with fail
          go_roundw
          case rel => exact ⟨i + 1, S', M', by omega, by go_num, HS10.out.new HB12.out⟩
          case measure => simp [intOf]; omega
        · obtain rfl : i = T := by omega
          have HBE := hid (HB5.out.trans (HSR.out.below.mono HB5.out.size))
          have HWE := hid (HB1.out.trans (HBE.out.mono HB1.out.size))
          clear HSR
          obtain ⟨x0, x1, x2, x3, hlx⟩ := HXC.out _ HBE.out
          have hsi := swaySince_any wo m a c v R i (HF.out.new HWE.out) (HM.out.new HWE.out)
          rw [HNN.out, HNS.out, HNW.out] at hsi
          unfold SinceV at hsi
          have hab : swayE m.pl a c v R i = 0 → 0 ≤ a ∧ a < 5 ∧ (0 ≤ swayV m.pl a c v R i → Reach m.pl.wires a.toNat R) := fun h => by
            obtain ⟨_, h2, _⟩ := swayE_zero h
            have h3 : 0 ≤ a ∧ a < m.pl.code.length ∧ 0 ≤ c ∧ c < 6 ∧ 0 ≤ v ∧ v < 1000 := by simpa [pokeOk] using h2
            refine ⟨h3.1, by rw [HLC.out] at h3; omega, fun h4 => ?_⟩
            rw [swayV_nat h] at h4
            exact since_flows HP.out h2 h4
          have HAB := hid hab
          generalize swayV m.pl a c v R i = V at hsi HAB
          generalize swayE m.pl a c v R i = E at hsi HAB
          clear hab
          go_wp2_with fail
          refine hsi.mono ?_
          clear hsi
          by_cases hE : E = 0
          · rw [hE, errV_zero]
            rintro e w13 ⟨rfl, hb13⟩
            obtain ⟨ha0, ha5, hre⟩ := HAB.out hE
            have HB13 := hid (HBE.out.trans (hb13.mono HBE.out.size))
            have HW13 := hid (HB1.out.trans (HB13.out.mono HB1.out.size))
            have HRE := hid hre
            clear hb13 x0 x1 x2 x3 hlx hre hE
            obtain ⟨x0, x1, x2, x3, hlx⟩ := HXC.out _ HB13.out
            have hlv := levels_any m.wA LA m.wc lc nl m.wires xs w13 (HM.out.new HW13.out).wires HM.out.wiresW HNL.out (by have := HS.out.new HW13.out; rw [HNL.out] at this; exact this) (by have := HSW.out; rw [HNL.out] at this; exact this)
            rw [HNW.out] at hlv
            have HLZ : Hid (levelsOf m.wires xs = 0 → nl = 5 ∧ m.wires.any (leadsDown xs) = false) := fun h => by
              unfold levelsOf at h
              by_cases h1 : (flowChk m.wires).2 = 0
              · rw [if_neg (fun h2 => h2 h1)] at h
                by_cases h2 : xs.length = 5
                · rw [if_neg (fun h3 => h3 h2)] at h
                  refine ⟨by rw [← HNL.out]; exact h2, ?_⟩
                  cases h3 : m.wires.any (leadsDown xs) with
                  | false => rfl
                  | true => rw [h3] at h; simp at h
                · rw [if_pos h2] at h; simp at h
              · rw [if_pos h1] at h; exact absurd h h1
            go_wp2_with fail
            refine hlv.mono ?_
            clear hlv
            by_cases hL : levelsOf m.wires xs = 0
            · obtain ⟨rfl, hdn⟩ := HLZ.out hL
              rw [hL, errV_zero]
              rintro e w14 ⟨rfl, hb14⟩
              have HW14 := hid (HW13.out.trans (hb14.mono HW13.out.size))
              clear hb14 x0 x1 x2 x3 hlx hL
              obtain ⟨A, rfl⟩ : ∃ A : Nat, a = A := ⟨a.toNat, by omega⟩
              have hxl := HNL.out
              have hsl := HS.out.new HW14.out
              obtain ⟨lb, lo, rfl, hlb, hg⟩ := Sl.int hsl (Below.refl _ _) (by omega)
              have g1 := hg A (by omega)
              have g2 := hg R (by omega)
              have hcap := HSW.out.1
              have hcap2 := HSW.out.2.1
              unfold maxLen at hcap2
              have hup : 0 ≤ V → xs.getD A 0 ≤ xs.getD R 0 := fun h => by
                have h1 := HRE.out h
                rw [Int.toNat_natCast] at h1
                exact reach_up hdn h1
              have ha5' : (A : Int) < 5 := by omega
              have hr5' : (R : Int) < 5 := by omega
              have ha4 : (A : Int) ≤ 4 := by omega
              generalize xs.getD A 0 = p1 at g1 hup
              generalize xs.getD R 0 = p2 at g2 hup
              rw [hxl] at hcap
              clear hg hsl hdn hxl
              by_cases hV : V < 0
              · clear hup
                go_wp2_with fail
                go_quiet (fail)
                go_wp2_with fail
                go_ret
                exact ⟨rfl, below_drawn HW14.out _⟩
              · have h0V : 0 ≤ V := by omega
                have hd : decide (V < 0) = false := decide_eq_false hV
                have hle := hup h0V
                clear hup hV
                go_wp2_with fail
                go_quiet (fail)
                go_wp2_with fail
                go_ret
                exact ⟨by simp, below_drawn HW14.out _⟩
            · rw [errV_pos hL]
              rintro e w14 ⟨rfl, hb14⟩
              have HW14 := hid (HW13.out.trans (hb14.mono HW13.out.size))
              clear hb14 x0 x1 x2 x3 hlx HLZ
              go_wp2_with fail
              go_ret
              exact ⟨rfl, HW14.out⟩
          · rw [errV_pos hE]
            rintro e w13 ⟨rfl, hb13⟩
            have HW13 := hid (HWE.out.trans (hb13.mono HWE.out.size))
            clear hb13 x0 x1 x2 x3 hlx HAB
            go_wp2_with fail
            go_ret
            exact ⟨rfl, HW13.out⟩
    · have hcs : t < 0 ∨ (0 ≤ t ∧ 120 < t) ∨ (0 ≤ t ∧ t ≤ 120 ∧ b < 0) ∨ (0 ≤ t ∧ t ≤ 120 ∧ 0 ≤ b ∧ (nn : Int) ≤ b) := by omega
      clear hok he
      rcases hcs with h1 | ⟨h1, h2⟩ | ⟨h1, h2, h3⟩ | ⟨h1, h2, h3, h4⟩
      all_goals
        go_wp2_with fail
        go_ret
        exact ⟨rfl, HW3.out⟩
  · rw [errV_pos he]
    rintro e w3 ⟨rfl, hb3⟩
    have HW3 := hid (HW2.out.trans (hb3.mono HW2.out.size))
    clear hb3 x0 x1 x2 x3 hlx
    go_wp2_with fail
    go_ret
    exact ⟨rfl, HW3.out⟩
end Go.Proofs.YtongkiccglaniaaDoor
