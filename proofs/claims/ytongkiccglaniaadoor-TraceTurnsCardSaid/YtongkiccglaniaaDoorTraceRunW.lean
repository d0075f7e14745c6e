/- Package trace: the contract of Run, for any plan and any number of ticks. -/
import Derived.Test.YtongkiccglaniaaDoorRunU
import Derived.Test.YtongkiccglaniaaDoorKernPair
import Derived.IntWalk
namespace Go.Proofs.YtongkiccglaniaaDoor
open Go.RowKit
set_option maxRecDepth 100000

theorem Tryd.infoEvent : (Tryd.prog.info? 34).map (fun i => (i.zero, i.size, i.bytes)) = some (some (.agg #[.int .i64 0, .int .i64 0, .int .i64 0, .int .i64 0]), 4, 32) := by kernel_rfl
def evAt (p : Pl) (t : Nat) : Ev := (tick p (runK p t)).1
/-- What is done in so many ticks. -/
def evsTo (p : Pl) (n : Nat) : List Ev := (List.range n).map (evAt p)
theorem evsTo_succ (p : Pl) (n : Nat) : evsTo p (n + 1) = evsTo p n ++ [evAt p n] := by simp [evsTo, List.range_succ]
theorem evsTo_len (p : Pl) (n : Nat) : (evsTo p n).length = n := by simp [evsTo]
def runE (p : Pl) (n : Int) : Int := if planChk p ≠ 0 then planChk p else if 0 ≤ n ∧ n ≤ 2000 then 0 else 1
/-- What Run answers. -/
def TraceV (w : World) (p : Pl) (n : Int) (e : Ending) (w' : World) : Prop :=
  (runE p n ≠ 0 ∧ e = .returned (.tuple #[.slice none 0 0, errV (runE p n)]) ∧ Below w.heap.size w w') ∨
  (runE p n = 0 ∧ ∃ A m c, e = .returned (.tuple #[.slice A m c, .nilIface]) ∧ (m : Int) = n ∧ Grow w w' 34 4 A m c ((evsTo p m).flatMap Ev.cells))
theorem ev_one (x : Ev) : ∀ u ∈ x.cells, u.oneCell' = true := by
  intro u hu
  simp [Ev.cells] at hu
  rcases hu with rfl | rfl | rfl | rfl <;> rfl
set_option maxHeartbeats 4000000 in
theorem traceRun_any (w : World) (m : PM) (n : Int) (hf : Forms w) (hm : PlanAt w m) :
    Calls Tryd.prog 59 #[.agg #[.slice m.A m.ros.length m.c, .int .i64 m.ticks, .slice m.sA m.spans.length m.sc, .slice m.wA m.wires.length m.wc], .int .i64 n] w (TraceV w m.pl n) := by
  obtain ⟨Q, hQ⟩ : ∃ Q, Q = TraceV w m.pl n := ⟨_, rfl⟩
  rw [← hQ]
  have HQ := hid hQ
  clear hQ
  have hbad : planChk m.pl ≠ 0 → ∀ w', Below w.heap.size w w' → Calls Tryd.prog 28 #[.agg #[.slice m.A m.ros.length m.c, .int .i64 m.ticks, .slice m.sA m.spans.length m.sc, .slice m.wA m.wires.length m.wc]] w' fun e w'' => e = .returned (.tuple #[.pointer none, errV (planChk m.pl)]) ∧ Below w'.heap.size w' w'' := fun he w' hb => kern_new_bad w' m (hf.new hb) (hm.new hb) he
  have hnew : planChk m.pl = 0 → ∀ w', Below w.heap.size w w' → Calls Tryd.prog 28 #[.agg #[.slice m.A m.ros.length m.c, .int .i64 m.ticks, .slice m.sA m.spans.length m.sc, .slice m.wA m.wires.length m.wc]] w' (KNew w' m.pl) := fun he w' hb => new_run w' m (hf.new hb) (hm.new hb) he
  unfold KNew at hnew
  generalize m.pl = p at HQ hbad hnew
  obtain ⟨nn, hnn⟩ : ∃ nn, nn = m.ros.length := ⟨_, rfl⟩
  obtain ⟨ns, hns⟩ : ∃ ns, ns = m.spans.length := ⟨_, rfl⟩
  obtain ⟨nw, hnw⟩ : ∃ nw, nw = m.wires.length := ⟨_, rfl⟩
  rw [← hnn, ← hns, ← hnw] at hbad hnew ⊢
  have HBAD := hid hbad
  have HNEW := hid hnew
  clear hm hf hnn hns hnw hbad hnew
  have HBW := hid ((Below.refl w.heap.size w).alloc (Nat.le_refl _) (.cells #[.slice m.A nn m.c, .int .i64 m.ticks, .slice m.sA ns m.sc, .slice m.wA nw m.wc] 31))
  by_cases he : planChk p = 0
  · have HN := hid (HNEW.out he)
    have HP := hid (planChk_ok he)
    by_cases hin : 0 ≤ n ∧ n ≤ 2000
    · obtain ⟨N, rfl⟩ : ∃ N : Nat, n = N := ⟨n.toNat, by omega⟩
      have hE : Hid (runE p N = 0) := by show _ = _; unfold runE; rw [if_neg (fun e => e he), if_pos hin]
      obtain ⟨hi1, hi2⟩ := hin
      obtain ⟨ie, hie, hz0, hz1, hz2⟩ := info_parts Tryd.infoEvent
      clear HBAD HNEW he
      go_enter Tryd.func59, Tryd.ntmps59
      go_wp2_with fail
      refine (HN.out _ HBW.out).mono ?_
      rintro e w1 ⟨kb, M, rfl, hr⟩
      have HR := hid (hr.base HBW.out)
      clear hr
      go_wp2_with fail
      go_loopw [25, 8] (fun v25 v8 wr => ∃ (t : Nat) (M : KM) (A : Option Addr) (c : Nat), t ≤ N ∧ v25 = .int .i64 t ∧ v8 = .slice A t c ∧ KRun w wr kb p M (runK p t) ∧ Grow w wr 34 4 A t c ((evsTo p t).flatMap Ev.cells) ∧ ∀ j, InA A j → ¬ TF kb M j) (fun v25 _ _ => N - (intOf v25).toNat)
      case atStart => exact ⟨0, M, none, 0, by omega, rfl, rfl, HR.out, Grow.nil HR.out.below, fun j hj => by simp [InA] at hj⟩
      case round =>
        obtain ⟨wo, rfl⟩ : ∃ wo : World, wo = wr := ⟨_, rfl⟩
        obtain ⟨t, M, A, c, htl, rfl, rfl, hk, hg, hap⟩ := hrel
        have HK := hid hk
        have HG := hid hg
        have HAP := hid hap
        clear hk hg hap HR
        by_cases htn : t < N
        · go_wp2_with fail
          refine (tick_run HK.out HP.out (runK_ok HP.out t) (by omega)).mono ?_
          rintro e w2 ⟨M2, rfl, hk2, hkeep, hfr⟩
          obtain ⟨x, hx⟩ : ∃ x, x = evAt p t := ⟨_, rfl⟩
          rw [show (tick p (runK p t)).1 = x from hx.symm]
          have HX := hid hx
          have hrow2 : Row w2 34 4 A t c ((evsTo p t).flatMap Ev.cells) := HG.out.row.through hkeep fun j hj hk => HAP.out j hj (.inl hk)
          have HK2 : Hid (KRun w w2 kb p M2 (runK p (t + 1))) := hk2
          have hap2 : ∀ j, InA A j → ¬ TF kb M2 j := fun j hj hT => (hfr j hT).elim (HAP.out j hj) fun h => by have := HG.out.row.lt j hj; omega
          have HG2 := hid (Grow.mk hrow2 HG.out.fresh hk2.below)
          have HAP2 := hid hap2
          obtain ⟨xt, xr, xp, xw⟩ := x
          simp only []
          clear hk2 hkeep hfr hrow2 hx hap2
          go_wp2_with (at_builtin; refine wpList_append_row _ rfl _ _ 120 rfl 34 ie _ 4 32 Tryd.underlying120 hie hz0 hz1 hz2 rfl (by decide) A t c ((evsTo p t).flatMap Ev.cells) rfl ?c0 (some ⟨w2.heap.size, 0, none⟩) 1 1 (Ev.cells ⟨xt, xr, xp, xw⟩) rfl ?c1 ?c2 ?c3 ?c4 ?_)
          case c0 => exact HG2.out.row.new ((Below.refl _ _).alloc (Nat.le_refl _) _)
          case c1 => exact sl_blk (heap_alloc_new w2 _) 4 1 _ rfl rfl
          case c2 => exact ev_one _
          case c3 => unfold maxLen; omega
          case c4 => omega
          intro A2 c2 w3 hr3 hk3 hn3
          have hg3 := HG2.out.more ((Below.refl _ _).alloc (Nat.le_refl _) _) hr3 hk3 fun j hj => (hn3 j hj).imp_right fun h => by simp at h ⊢; omega
          have hkr := HK2.out.new ((Below.refl w2.heap.size w2).alloc (Nat.le_refl _) (.cells #[.int .i64 xt, .int .i64 xr, .int .i64 xp, .int .i64 xw] 34))
          have hkl := HK2.out.kat.lt
          have hk4 : KRun w w3 kb p M2 (runK p (t + 1)) := ⟨hkr.kat.through hk3 fun j hj hA => HAP2.out j hA hj, hkr.plan, hkr.fresh, hg3.below⟩
          have HG3 := hid hg3
          have HK4 := hid hk4
          have HAP3 : Hid (∀ j, InA A2 j → ¬ TF kb M2 j) := fun j hj hT => (hn3 j hj).elim (fun h => HAP2.out j h hT) fun h => by have := hkl j hT; omega
          clear hg3 hkr hkl hk4 hr3 hk3 hn3
          go_wp2_with fail
          go_roundw
          case rel =>
            refine ⟨t + 1, M2, A2, c2, by omega, by go_num, rfl, HK4.out, ?_, HAP3.out⟩
            rw [evsTo_succ, List.flatMap_append, List.flatMap_cons, List.flatMap_nil, List.append_nil, ← HX.out]
            exact HG3.out
          case measure => simp [intOf]; omega
        · obtain rfl : t = N := by omega
          go_wp2_with fail
          (first | go_ret2 | skip)
          rw [HQ.out]
          exact .inr ⟨hE.out, A, t, c, rfl, rfl, HG.out⟩
    · have hE : Hid (runE p n = 1) := by show _ = _; unfold runE; rw [if_neg (fun e => e he), if_neg hin]
      have hb : n < 0 ∨ (0 ≤ n ∧ 2000 < n) := by omega
      clear HBAD HNEW he hin
      rcases hb with h | ⟨h, h1⟩
      all_goals
        go_enter Tryd.func59, Tryd.ntmps59
        go_wp2_with fail
        refine (HN.out _ HBW.out).mono ?_
        rintro e w1 ⟨kb, M, rfl, hr⟩
        have HB := hid (HBW.out.trans (hr.below.mono HBW.out.size))
        clear hr
        go_wp2_with fail
        (first | go_ret2 | skip)
        rw [HQ.out]
        exact .inl ⟨by rw [hE.out]; decide, by rw [hE.out]; rfl, HB.out⟩
  · have hE : Hid (runE p n = planChk p) := by show _ = _; unfold runE; rw [if_pos he]
    have HB0 := hid (HBAD.out he)
    have HPQ := hid he
    generalize planChk p = q at HB0 HPQ hE
    rw [errV_pos HPQ.out] at HB0
    clear HBAD HNEW he
    go_enter Tryd.func59, Tryd.ntmps59
    go_wp2_with fail
    refine (HB0.out _ HBW.out).mono ?_
    rintro e w1 ⟨rfl, hb1⟩
    have HB := hid (HBW.out.trans (hb1.mono HBW.out.size))
    clear hb1
    go_wp2_with fail
    (first | go_ret2 | skip)
    rw [HQ.out]
    exact .inl ⟨by rw [hE.out]; exact HPQ.out, by rw [hE.out, errV_pos HPQ.out]; rfl, HB.out⟩
end Go.Proofs.YtongkiccglaniaaDoor
