/- The walk of framelaw3.TraceBack: it returns true at every input. -/
import Derived.Test.YthafahnlfpkkbaaGreatDoorEvU
import Derived.Test.YthafahnlfpkkbaaGreatDoorTraceU
namespace Go.Proofs.YthafahnlfpkkbaaGreatDoor
open Go.RowKit
set_option maxRecDepth 100000

/-- The first text is read as it stands. -/
def EFactGot (w : World) (e : Ending) (w' : World) : Prop :=
  ∃ (b off c : Nat), e = .returned (.tuple #[.slice (some ⟨b, off, none⟩) 2 c, .nilIface]) ∧ w'.cell? ⟨b, off + 1, none⟩ = some (.int .i64 (-1)) ∧ w'.cell? ⟨b, off + 6, none⟩ = some (.int .i64 3) ∧ Below w.heap.size w w'
theorem efact_any (w : World) (hd : Desk w) : Calls Tryz.prog 24 #[.string ⟨#[48, 32, 45, 32, 48, 32, 48, 10, 49, 32, 50, 32, 51, 32, 49, 10]⟩] w (EFactGot w) := by
  have h0 : (⟨#[48, 32, 45, 32, 48, 32, 48, 10, 49, 32, 50, 32, 51, 32, 49, 10]⟩ : ByteArray).data.toList = evsText factEvs := factE_text.symm
  have hwf0 := (wfevs_ok factE_ok).2
  refine (tparse_any _ (by decide) w hd).mono ?_
  rintro e w' ⟨hb, ⟨l, A, n, c, hwf, hct, hchk, hn, rfl, hrow, _⟩ | ⟨l, hwf, hct, hchk, rfl⟩ | ⟨hno, rfl⟩⟩
  · rw [h0] at hct
    have hl := evs_inj hwf hwf0 hct
    subst hl
    obtain rfl : n = 2 := by rw [← hn]; rfl
    obtain ⟨b, off, rfl, _, hx⟩ := hrow.sl.2 (by decide)
    exact ⟨b, off, c, rfl, hx 1 _ rfl, hx 6 _ rfl, hb⟩
  · rw [h0] at hct
    have hl := evs_inj hwf hwf0 hct
    subst hl
    exact absurd factE_ok hchk
  · exact absurd h0.symm (hno factEvs hwf0)
/-- Any text, in short. -/
def ETextGot (t : ByteArray) (w : World) (e : Ending) (w' : World) : Prop :=
  Below w.heap.size w w' ∧ ((∃ (l : List Ev) (A : Option Addr) (n c : Nat), evsText l = t.data.toList ∧ evsChk l = 0 ∧ l.length = n ∧ e = .returned (.tuple #[.slice A n c, .nilIface]) ∧ Row w' 32 4 A n c (l.flatMap Ev.cells)) ∨ (∃ k : Int, k ≠ 0 ∧ e = .returned (.tuple #[.slice none 0 0, errV k])))
theorem etext_any (t : ByteArray) (ht : t.size ≤ 1073741824) (w : World) (hd : Desk w) : Calls Tryz.prog 24 #[.string t] w (ETextGot t w) := by
  refine (tparse_any t ht w hd).mono ?_
  rintro e w' ⟨hb, ⟨l, A, n, c, hwf, hct, hchk, hn, rfl, hrow, _⟩ | ⟨l, hwf, hct, hchk, rfl⟩ | ⟨hno, rfl⟩⟩
  · exact ⟨hb, .inl ⟨l, A, n, c, hct, hchk, hn, rfl, hrow⟩⟩
  · exact ⟨hb, .inr ⟨_, hchk, rfl⟩⟩
  · exact ⟨hb, .inr ⟨2, by decide, rfl⟩⟩
theorem six_get (f : Nat → Nat) {i : Nat} (h : i < 6) : (sixC f)[i]? = some (.int .i64 (f i)) := by
  have hc : i = 0 ∨ i = 1 ∨ i = 2 ∨ i = 3 ∨ i = 4 ∨ i = 5 := by omega
  rcases hc with rfl | rfl | rfl | rfl | rfl | rfl <;> rfl
theorem evsTo_take (p : Pl) (n k : Nat) : (evsTo p (n + k)).take n = evsTo p n := by
  unfold evsTo
  rw [← List.map_take, List.take_range, Nat.min_eq_left (by omega)]
theorem flat_take {α : Type} (f : α → List Value) (k : Nat) (hf : ∀ x, (f x).length = k) : ∀ (l : List α) (n : Nat), (l.flatMap f).take (n * k) = (l.take n).flatMap f
  | [], n => by simp
  | x :: l, 0 => by simp
  | x :: l, n + 1 => by
    rw [List.flatMap_cons, List.take_succ_cons, List.flatMap_cons, Nat.succ_mul, Nat.add_comm, List.take_append, hf, List.take_of_length_le (by rw [hf]; omega), Nat.add_sub_cancel_left, flat_take f k hf l n]
/-- The first ones of a longer run. -/
theorem first_evs {w : World} {A : Option Addr} {p : Pl} {n k : Nat} (h : Sl w A 4 (n + k) ((evsTo p (n + k)).flatMap Ev.cells)) : Sl w A 4 n ((evsTo p n).flatMap Ev.cells) := by
  have h2 := Sl.take h (m := n) (by omega)
  rw [flat_take Ev.cells 4 Ev.len, evsTo_take] at h2
  exact h2
def RunGood (p : Pl) (n : Nat) (w : World) (e : Ending) (w' : World) : Prop := ∃ A c, e = .returned (.tuple #[.slice A n c, .nilIface]) ∧ Sl w' A 4 n ((evsTo p n).flatMap Ev.cells) ∧ n ≤ c ∧ Below w.heap.size w w'
def RunBad (k : Int) (w : World) (e : Ending) (w' : World) : Prop := e = .returned (.tuple #[.slice none 0 0, errV k]) ∧ Below w.heap.size w w'
theorem run_good (w : World) (m : PM) (n : Nat) (hf : Forms w) (hm : PlanAt w m) (hp : planChk m.pl = 0) (hn : n ≤ 2000) : Calls Tryz.prog 14 #[.agg #[.slice m.A m.ros.length m.c, .int .i64 m.ticks, .slice m.sA m.spans.length m.sc, .slice m.wA m.wires.length m.wc], .int .i64 n] w (RunGood m.pl n w) := by
  refine (traceRun_any w m n hf hm).mono ?_
  have hr : runE m.pl n = 0 := by unfold runE; rw [if_neg (by omega), if_pos (by omega)]
  rintro e w' (⟨h, _⟩ | ⟨_, A, k, c, rfl, hk, hg⟩)
  · exact absurd hr h
  · obtain rfl : k = n := by omega
    exact ⟨A, c, rfl, hg.row.sl, hg.row.le.1, hg.below⟩
theorem run_bad (w : World) (m : PM) (n : Int) (hf : Forms w) (hm : PlanAt w m) (hp : planChk m.pl ≠ 0) : Calls Tryz.prog 14 #[.agg #[.slice m.A m.ros.length m.c, .int .i64 m.ticks, .slice m.sA m.spans.length m.sc, .slice m.wA m.wires.length m.wc], .int .i64 n] w (RunBad (planChk m.pl) w) := by
  refine (traceRun_any w m n hf hm).mono ?_
  have hr : runE m.pl n = planChk m.pl := by unfold runE; rw [if_pos hp]
  rintro e w' (⟨_, h, hb⟩ | ⟨h, _⟩)
  · rw [hr] at h; exact ⟨h, hb⟩
  · rw [hr] at h; exact absurd h hp

theorem traceBack_ret {w w' : World} {a : Act} (h : a.tmps[8]? = some (.bool true)) (hd : a.defers = []) (hb : Below w.heap.size w w') : bodyPost Tryz.prog Tryz.f4 (fun e w' => e = .returned (.bool true) ∧ Below w.heap.size w w') .ret a w' :=
  bodyPost_ret (v := .bool true) (by simp [results, Tryz.results4, go_sem, h]) hd ⟨rfl, hb⟩

set_option maxHeartbeats 40000000 in
theorem traceBack_walk {w : World} (hf : Forms w) (_ : Names w) (hd : Desk w) (m : PM) (hm : PlanAt w m) (n : Int) (A : Option Addr) (c : Nat) (l : List Ev) (hs : Sl w A 4 l.length (l.flatMap Ev.cells)) (hsw : SlW A c l.length) (t : ByteArray) (ht : t.size ≤ 1073741824) :
    Calls Tryz.prog 4 #[.agg #[.slice m.A m.ros.length m.c, .int .i64 m.ticks, .slice m.sA m.spans.length m.sc, .slice m.wA m.wires.length m.wc], .int .i64 n, .slice A l.length c, .string t] w fun e w' => e = .returned (.bool true) ∧ Below w.heap.size w w' := by
  obtain ⟨w1, hw1⟩ : ∃ w1, w1 = w.alloc (.cells #[.slice m.A m.ros.length m.c, .int .i64 m.ticks, .slice m.sA m.spans.length m.sc, .slice m.wA m.wires.length m.wc] 26) := ⟨_, rfl⟩
  have hb1 : Below w.heap.size w w1 := by rw [hw1]; exact (Below.refl _ _).alloc (Nat.le_refl _) _
  have hbox : w1.heap[w.heap.size]? = some (.cells #[.slice m.A m.ros.length m.c, .int .i64 m.ticks, .slice m.sA m.spans.length m.sc, .slice m.wA m.wires.length m.wc] 26 (0, 0)) := by rw [hw1]; exact heap_alloc_new w _
  have HRUN : Hid (planChk m.pl = 0 → ∀ (k : Nat) (w' : World), k ≤ 2000 → Below w1.heap.size w1 w' → Calls Tryz.prog 14 #[.agg #[.slice m.A m.ros.length m.c, .int .i64 m.ticks, .slice m.sA m.spans.length m.sc, .slice m.wA m.wires.length m.wc], .int .i64 k] w' (RunGood m.pl k w')) := hid fun he k w' hk hb => run_good w' m k (hf.new (hb1.trans (hb.mono hb1.size))) (hm.new (hb1.trans (hb.mono hb1.size))) he hk
  have HRUNB : Hid (planChk m.pl ≠ 0 → ∀ (k : Int) (w' : World), Below w1.heap.size w1 w' → Calls Tryz.prog 14 #[.agg #[.slice m.A m.ros.length m.c, .int .i64 m.ticks, .slice m.sA m.spans.length m.sc, .slice m.wA m.wires.length m.wc], .int .i64 k] w' (RunBad (planChk m.pl) w')) := hid fun he k w' hb => run_bad w' m k (hf.new (hb1.trans (hb.mono hb1.size))) (hm.new (hb1.trans (hb.mono hb1.size))) he
  obtain ⟨nr, hnr⟩ : ∃ nr, m.ros.length = nr := ⟨_, rfl⟩
  obtain ⟨ns, hns⟩ : ∃ ns, m.spans.length = ns := ⟨_, rfl⟩
  obtain ⟨nw, hnw⟩ : ∃ nw, m.wires.length = nw := ⟨_, rfl⟩
  rw [hnr, hns, hnw] at hw1 hbox HRUN HRUNB ⊢
  obtain ⟨N, hN⟩ : ∃ N, l.length = N := ⟨_, rfl⟩
  rw [hN] at hs hsw ⊢
  have HN := hid hN
  have HSW := hid hsw
  have HB1 := hid hb1
  have HD1 : Hid (∀ w', Below w1.heap.size w1 w' → Desk w') := hid fun w' hb => hd.new (hb1.trans (hb.mono hb1.size))
  have HS1 : Hid (∀ w', Below w1.heap.size w1 w' → Sl w' A 4 N (l.flatMap Ev.cells)) := hid fun w' hb => Sl.new hs (hb1.trans (hb.mono hb1.size))
  have HBX : Hid (∀ w', Below w1.heap.size w1 w' → w'.cell? ⟨w.heap.size, 0, none⟩ = some (.slice m.A nr m.c) ∧ w'.cell? ⟨w.heap.size, 1, none⟩ = some (.int .i64 m.ticks) ∧ w'.cell? ⟨w.heap.size, 2, none⟩ = some (.slice m.sA ns m.sc) ∧ w'.cell? ⟨w.heap.size, 3, none⟩ = some (.slice m.wA nw m.wc) ∧ w.heap.size < w'.heap.size) := hid fun w' hb => by
    have h := (hb.block _ (blk_lt hbox)).trans hbox
    have x0 := blk_cell h 0
    have x1 := blk_cell h 1
    have x2 := blk_cell h 2
    have x3 := blk_cell h 3
    simp at x0 x1 x2 x3
    exact ⟨x0, x1, x2, x3, blk_lt h⟩
  have HFACT := hid (efact_any w1 (HD1.out w1 (Below.refl _ _)))
  clear hf hd hm hs hsw hN hb1 hbox hnr hns hnw
  go_enter Tryz.func4, Tryz.ntmps4
  go_wp2_with (go_at_call 24; rw [← hw1]; refine HFACT.out.mono ?_; rintro e w2 ⟨b2, off2, c2, rfl, y1, y6, hb2⟩; have HV2 := hid hb2; have hl2 := cell_lt y1; clear hb2 hw1 HFACT)
  have HTXT := hid (etext_any t ht w2 (HD1.out w2 HV2.out))
  clear y1 y6 hl2
  refine HTXT.out.mono ?_
  rintro e w3 ⟨hb3, ⟨lx, Ax, nx, cx, htx, hcx, hnx, rfl, hrx⟩ | ⟨k, hk, rfl⟩⟩
  case' inl =>
    have hbw3 := HV2.out.trans (hb3.mono HV2.out.size)
    have hpx := tprint_any Ax nx cx lx w3 hnx (HD1.out w3 hbw3).pows hrx.sl (row_slW hrx)
    unfold TPrinted at hpx
    rw [if_pos hcx, hcx, errV_zero, htx, etxt_of] at hpx
    have HPX := hid hpx
    have HV3 := hid hbw3
    clear hb3 htx hcx hnx hrx hbw3 hpx
    go_wp2_with (go_at_call 19; refine HPX.out.mono ?_; rintro e w4 ⟨rfl, hb4⟩; have HV4 := hid (HV3.out.trans (hb4.mono HV3.out.size)); clear hb4 HPX)
  case' inr =>
    obtain ⟨w4, rfl⟩ : ∃ w4, w4 = w3 := ⟨_, rfl⟩
    have HV4 := hid (HV2.out.trans (hb3.mono HV2.out.size))
    rw [errV_pos hk]
    clear hb3
    go_wp2_with fail
  all_goals
    have hpl := tprint_any A N c l w4 HN.out (HD1.out w4 HV4.out).pows (HS1.out w4 HV4.out) HSW.out
    unfold TPrinted at hpl
    by_cases he : evsChk l = 0
    · rw [if_pos he, he, errV_zero] at hpl
      refine hpl.mono ?_
      rintro e w5 ⟨rfl, hb5⟩
      have HV5 := hid (HV4.out.trans (hb5.mono HV4.out.size))
      clear hb5 hpl
      go_wp2_with fail
      refine (own_evs HN.out he w5 (HD1.out w5 HV5.out)).mono ?_
      rintro e w6 ⟨A6, c6, rfl, hrow6, hb6⟩
      have h20 := (evs_each he).1
      rw [HN.out] at h20
      have HV6 := hid (HV5.out.trans (hb6.mono HV5.out.size))
      have HSAME := hid (same_evs A6 A N c6 c l w6 HN.out hrow6.sl (HS1.out w6 HV6.out) (by omega) hrow6.le.1 HSW.out.1)
      have HEV := hid he
      clear hrow6 hb6 he
      go_wp2_with (go_at_call 16; refine HSAME.out.mono ?_; rintro e w7 ⟨rfl, nq, hw7⟩; have HV7 : Hid (Below w1.heap.size w1 w7) := hid (by rw [hw7]; exact belowQE HV6.out nq); clear hw7 HSAME)
      go_loopw [18, 19] (fun v18 v19 wr => ∃ k : Nat, k ≤ 6 ∧ v19 = .int .i64 (-1 + (k : Int)) ∧ v18 = .int .i64 (upSum (fun i => left (-1 + (i : Int)) l) k : Nat) ∧ Below w1.heap.size w1 wr) (fun _ v19 _ => 6 - (intOf v19 + 1).toNat)
      case atStart => exact ⟨0, by omega, rfl, rfl, HV7.out⟩
      case round =>
        obtain ⟨k, hk6, rfl, rfl, hbr⟩ := hrel
        have HVR := hid hbr
        have hsum := upSum_le (fun i => left (-1 + (i : Int)) l) 2000 k (fun i _ => Nat.le_trans (left_le _) (by rw [HN.out]; exact h20))
        clear hbr
        by_cases hk5 : k < 6
        · have HOF := hid (of_good A N c l (-1 + (k : Int)) wr HN.out (HS1.out wr HVR.out) HSW.out h20 HEV.out (by unfold wIn; rw [decide_eq_true (by omega), decide_eq_true (by omega)]; rfl))
          have hle4 : (-1 + (k : Int)) ≤ 4 := by omega
          have hnx := show upSum (fun i => left (-1 + (i : Int)) l) (k + 1) = upSum (fun i => left (-1 + (i : Int)) l) k + left (-1 + (k : Int)) l from rfl
          have HNX := hid hnx
          clear hnx
          obtain ⟨S, hS⟩ : ∃ S, upSum (fun i => left (-1 + (i : Int)) l) k = S := ⟨_, rfl⟩
          rw [hS] at hsum HNX ⊢
          clear hS
          go_wp2_with (go_at_call 22; refine HOF.out.mono ?_; rintro e w8 ⟨A8, k8, c8, rfl, hk8, hkn8, hb8⟩; have HV8 := hid (HVR.out.trans (hb8.mono HVR.out.size)); have HK8 := hid hk8; clear hb8 hk8 HOF)
          go_roundw
          case rel =>
            refine ⟨k + 1, by omega, by go_num, ?_, HV8.out⟩
            rw [HNX.out, ← HK8.out]
            go_num
          case measure => simp [intOf]; omega
        · obtain rfl : k = 6 := by omega
          have hall := rooms_all HEV.out
          rw [HN.out] at hall
          rw [hall]
          clear hall hsum
          have HCNT := hid (tcounts_any A N c l wr HN.out (HS1.out wr HVR.out) HSW.out HEV.out)
          go_wp2_with (go_at_call 20; refine HCNT.out.mono ?_; rintro e w8 ⟨b8, rfl, hc8, hb8⟩; have HV8 := hid (HVR.out.trans (hb8.mono HVR.out.size)); have HC8 := hid hc8; clear hb8 hc8 HCNT)
          go_loopw [23, 24] (fun v23 v24 wr => ∃ k : Nat, k ≤ 6 ∧ v24 = .int .i64 k ∧ v23 = .int .i64 (upSum (kindsOf l) k : Nat) ∧ w8 = wr) (fun _ v24 _ => 6 - (intOf v24).toNat)
          case atStart => exact ⟨0, by omega, rfl, rfl, rfl⟩
          case round =>
            obtain ⟨k, hk6, rfl, rfl, rfl⟩ := hrel
            have hsum := upSum_le (kindsOf l) 2000 k (fun i _ => Nat.le_trans (cntF_le _ _ _) (by rw [HN.out]; exact h20))
            by_cases hk5 : k < 6
            · have q := (blk_cell HC8.out k).trans (six_get (kindsOf l) hk5)
              have hkb : kindsOf l k ≤ 2000 := Nat.le_trans (cntF_le _ _ _) (by rw [HN.out]; exact h20)
              have hnx := show upSum (kindsOf l) (k + 1) = upSum (kindsOf l) k + kindsOf l k from rfl
              have HNX := hid hnx
              clear hnx
              obtain ⟨S, hS⟩ : ∃ S, upSum (kindsOf l) k = S := ⟨_, rfl⟩
              obtain ⟨K, hK⟩ : ∃ K, kindsOf l k = K := ⟨_, rfl⟩
              rw [hS, hK] at HNX
              rw [hS] at hsum ⊢
              rw [hK] at hkb q
              clear hS hK
              go_wp2_with fail
              go_roundw
              case rel => exact ⟨k + 1, by omega, by go_num, by rw [HNX.out]; go_num, by first | rfl | trivial⟩
              case measure => simp [intOf]; omega
            · obtain rfl : k = 6 := by omega
              have hall := kinds_all HEV.out
              rw [HN.out] at hall
              have hall2 : upSum (kindsOf l) 6 = N := hall
              rw [hall2]
              clear hall hall2 hsum
              obtain ⟨wx, rfl⟩ : ∃ wx, wx = w8 := ⟨_, rfl⟩
              have HVX := HV8
              go_upto_region 30 with fail
              rcases (show n < 0 ∨ (0 ≤ n ∧ 150 < n) ∨ (0 ≤ n ∧ n ≤ 150) by omega) with hn | ⟨hn, hn'⟩ | ⟨hn, hn'⟩
              · go_wp2_with fail
                exact traceBack_ret rfl rfl (HB1.out.trans (HVX.out.mono HB1.out.size))
              · go_wp2_with fail
                exact traceBack_ret rfl rfl (HB1.out.trans (HVX.out.mono HB1.out.size))
              · obtain ⟨nn, rfl⟩ : ∃ nn : Nat, n = nn := ⟨n.toNat, by omega⟩
                have hn150 : nn ≤ 150 := by omega
                obtain ⟨x0, x1, x2, x3, hlx⟩ := HBX.out wx HVX.out
                by_cases hpl : planChk m.pl = 0
                · go_wp2_with fail
                  refine (HRUN.out hpl nn wx (by omega) HVX.out).mono ?_
                  rintro e wa ⟨Aa, ca, rfl, hsa, hca, hba⟩
                  have HVA := hid (HVX.out.trans (hba.mono HVX.out.size))
                  have HSA := hid hsa
                  clear hsa hba x0 x1 x2 x3 hlx
                  obtain ⟨x0, x1, x2, x3, hlx⟩ := HBX.out wa HVA.out
                  have hw20 : IntKind.i64.wrap ((nn : Int) + 20) = ((nn + 20 : Nat) : Int) := by rw [IntWalk.i64_in _ (by omega)]; omega
                  go_wp2_with fail
                  rw [show ((nn : Int) + 20) = ((nn + 20 : Nat) : Int) by omega]
                  refine (HRUN.out hpl (nn + 20) wa (by omega) HVA.out).mono ?_
                  rintro e wb ⟨Ab, cb, rfl, hsb, hcb, hbb⟩
                  have HVB := hid (HVA.out.trans (hbb.mono HVA.out.size))
                  have HSAM : Hid (Calls Tryz.prog 16 #[.slice Aa nn ca, .slice Ab nn cb] wb (Read wb (.bool true))) := hid (same_evs Aa Ab nn ca cb (evsTo m.pl nn) wb (evsTo_len _ _) (HSA.out.new hbb) (first_evs hsb) (by omega) hca (by omega))
                  have hcb2 : (nn : Int) ≤ cb := by omega
                  clear hsb hbb x0 x1 x2 x3 hlx hw20
                  go_wp2_with (go_at_call 16; refine HSAM.out.mono ?_; rintro e wz ⟨rfl, nq2, hwz⟩; have HVZ : Hid (Below w1.heap.size w1 wz) := hid (by rw [hwz]; exact belowQE HVB.out nq2); clear hwz HSAM)
                  exact traceBack_ret rfl rfl (HB1.out.trans (HVZ.out.mono HB1.out.size))
                · go_wp2_with fail
                  refine (HRUNB.out hpl nn wx HVX.out).mono ?_
                  rintro e wa ⟨rfl, hba⟩
                  have HVA := hid (HVX.out.trans (hba.mono HVX.out.size))
                  clear hba x0 x1 x2 x3 hlx
                  obtain ⟨x0, x1, x2, x3, hlx⟩ := HBX.out wa HVA.out
                  rw [errV_pos hpl]
                  go_wp2_with fail
                  refine (HRUNB.out hpl _ wa HVA.out).mono ?_
                  rintro e wb ⟨rfl, hbb⟩
                  have HVB := hid (HVA.out.trans (hbb.mono HVA.out.size))
                  clear hbb x0 x1 x2 x3 hlx
                  rw [errV_pos hpl]
                  go_wp2_with fail
                  exact traceBack_ret rfl rfl (HB1.out.trans (HVB.out.mono HB1.out.size))
    · rw [if_neg he, errV_pos he] at hpl
      refine hpl.mono ?_
      rintro e w5 ⟨rfl, hb5⟩
      have HV5 := hid (HV4.out.trans (hb5.mono HV4.out.size))
      clear hb5 hpl
      obtain ⟨wx, rfl⟩ : ∃ wx, wx = w5 := ⟨_, rfl⟩
      have HVX := HV5
      go_upto_region 30 with fail
      rcases (show n < 0 ∨ (0 ≤ n ∧ 150 < n) ∨ (0 ≤ n ∧ n ≤ 150) by omega) with hn | ⟨hn, hn'⟩ | ⟨hn, hn'⟩
      · go_wp2_with fail
        exact traceBack_ret rfl rfl (HB1.out.trans (HVX.out.mono HB1.out.size))
      · go_wp2_with fail
        exact traceBack_ret rfl rfl (HB1.out.trans (HVX.out.mono HB1.out.size))
      · obtain ⟨nn, rfl⟩ : ∃ nn : Nat, n = nn := ⟨n.toNat, by omega⟩
        have hn150 : nn ≤ 150 := by omega
        obtain ⟨x0, x1, x2, x3, hlx⟩ := HBX.out wx HVX.out
        by_cases hpl : planChk m.pl = 0
        · go_wp2_with fail
          refine (HRUN.out hpl nn wx (by omega) HVX.out).mono ?_
          rintro e wa ⟨Aa, ca, rfl, hsa, hca, hba⟩
          have HVA := hid (HVX.out.trans (hba.mono HVX.out.size))
          have HSA := hid hsa
          clear hsa hba x0 x1 x2 x3 hlx
          obtain ⟨x0, x1, x2, x3, hlx⟩ := HBX.out wa HVA.out
          have hw20 : IntKind.i64.wrap ((nn : Int) + 20) = ((nn + 20 : Nat) : Int) := by rw [IntWalk.i64_in _ (by omega)]; omega
          go_wp2_with fail
          rw [show ((nn : Int) + 20) = ((nn + 20 : Nat) : Int) by omega]
          refine (HRUN.out hpl (nn + 20) wa (by omega) HVA.out).mono ?_
          rintro e wb ⟨Ab, cb, rfl, hsb, hcb, hbb⟩
          have HVB := hid (HVA.out.trans (hbb.mono HVA.out.size))
          have HSAM : Hid (Calls Tryz.prog 16 #[.slice Aa nn ca, .slice Ab nn cb] wb (Read wb (.bool true))) := hid (same_evs Aa Ab nn ca cb (evsTo m.pl nn) wb (evsTo_len _ _) (HSA.out.new hbb) (first_evs hsb) (by omega) hca (by omega))
          have hcb2 : (nn : Int) ≤ cb := by omega
          clear hsb hbb x0 x1 x2 x3 hlx hw20
          go_wp2_with (go_at_call 16; refine HSAM.out.mono ?_; rintro e wz ⟨rfl, nq2, hwz⟩; have HVZ : Hid (Below w1.heap.size w1 wz) := hid (by rw [hwz]; exact belowQE HVB.out nq2); clear hwz HSAM)
          exact traceBack_ret rfl rfl (HB1.out.trans (HVZ.out.mono HB1.out.size))
        · go_wp2_with fail
          refine (HRUNB.out hpl nn wx HVX.out).mono ?_
          rintro e wa ⟨rfl, hba⟩
          have HVA := hid (HVX.out.trans (hba.mono HVX.out.size))
          clear hba x0 x1 x2 x3 hlx
          obtain ⟨x0, x1, x2, x3, hlx⟩ := HBX.out wa HVA.out
          rw [errV_pos hpl]
          go_wp2_with fail
          refine (HRUNB.out hpl _ wa HVA.out).mono ?_
          rintro e wb ⟨rfl, hbb⟩
          have HVB := hid (HVA.out.trans (hbb.mono HVA.out.size))
          clear hbb x0 x1 x2 x3 hlx
          rw [errV_pos hpl]
          go_wp2_with fail
          exact traceBack_ret rfl rfl (HB1.out.trans (HVB.out.mono HB1.out.size))
end Go.Proofs.YthafahnlfpkkbaaGreatDoor
