/- Several parts: each begins with what it says. -/
import Derived.Test.YthafahnlfpkkbaaGreatDoorRunU
import Derived.Test.YthafahnlfpkkbaaGreatDoorKernPair
import Derived.IntWalk
import Derived.Test.YthafahnlfpkkbaaGreatDoorLineU
import Derived.Test.YthafahnlfpkkbaaGreatDoorOpen2
import Derived.Lib.SliceRun
import Derived.Deep.MidRow
/- Package trace: the contract of Run, for any plan and any number of ticks. -/
namespace Go.Proofs.YthafahnlfpkkbaaGreatDoor
open Go.RowKit
set_option maxRecDepth 100000

theorem Tryz.infoEvent : (Tryz.prog.info? 32).map (fun i => (i.zero, i.size, i.bytes)) = some (some (.agg #[.int .i64 0, .int .i64 0, .int .i64 0, .int .i64 0]), 4, 32) := by kernel_rfl
def evAt (p : Pl) (t : Nat) : Ev := (tick p (runK p t)).1
/-- What is done in so many ticks. -/
def evsTo (p : Pl) (n : Nat) : List Ev := (List.range n).map (evAt p)
theorem evsTo_succ (p : Pl) (n : Nat) : evsTo p (n + 1) = evsTo p n ++ [evAt p n] := by simp [evsTo, List.range_succ]
theorem evsTo_len (p : Pl) (n : Nat) : (evsTo p n).length = n := by simp [evsTo]
def runE (p : Pl) (n : Int) : Int := if planChk p ≠ 0 then planChk p else if 0 ≤ n ∧ n ≤ 2000 then 0 else 1
/-- What Run answers. -/
def TraceV (w : World) (p : Pl) (n : Int) (e : Ending) (w' : World) : Prop :=
  (runE p n ≠ 0 ∧ e = .returned (.tuple #[.slice none 0 0, errV (runE p n)]) ∧ Below w.heap.size w w') ∨
  (runE p n = 0 ∧ ∃ A m c, e = .returned (.tuple #[.slice A m c, .nilIface]) ∧ (m : Int) = n ∧ Grow w w' 32 4 A m c ((evsTo p m).flatMap Ev.cells))
theorem ev_one (x : Ev) : ∀ u ∈ x.cells, u.oneCell' = true := by
  intro u hu
  simp [Ev.cells] at hu
  rcases hu with rfl | rfl | rfl | rfl <;> rfl
set_option maxHeartbeats 4000000 in
theorem traceRun_any (w : World) (m : PM) (n : Int) (hf : Forms w) (hm : PlanAt w m) :
    Calls Tryz.prog 14 #[.agg #[.slice m.A m.ros.length m.c, .int .i64 m.ticks, .slice m.sA m.spans.length m.sc, .slice m.wA m.wires.length m.wc], .int .i64 n] w (TraceV w m.pl n) := by
  obtain ⟨Q, hQ⟩ : ∃ Q, Q = TraceV w m.pl n := ⟨_, rfl⟩
  rw [← hQ]
  have HQ := hid hQ
  clear hQ
  have hbad : planChk m.pl ≠ 0 → ∀ w', Below w.heap.size w w' → Calls Tryz.prog 25 #[.agg #[.slice m.A m.ros.length m.c, .int .i64 m.ticks, .slice m.sA m.spans.length m.sc, .slice m.wA m.wires.length m.wc]] w' fun e w'' => e = .returned (.tuple #[.pointer none, errV (planChk m.pl)]) ∧ Below w'.heap.size w' w'' := fun he w' hb => kern_new_bad w' m (hf.new hb) (hm.new hb) he
  have hnew : planChk m.pl = 0 → ∀ w', Below w.heap.size w w' → Calls Tryz.prog 25 #[.agg #[.slice m.A m.ros.length m.c, .int .i64 m.ticks, .slice m.sA m.spans.length m.sc, .slice m.wA m.wires.length m.wc]] w' (KNew w' m.pl) := fun he w' hb => new_run w' m (hf.new hb) (hm.new hb) he
  unfold KNew at hnew
  generalize m.pl = p at HQ hbad hnew
  obtain ⟨nn, hnn⟩ : ∃ nn, nn = m.ros.length := ⟨_, rfl⟩
  obtain ⟨ns, hns⟩ : ∃ ns, ns = m.spans.length := ⟨_, rfl⟩
  obtain ⟨nw, hnw⟩ : ∃ nw, nw = m.wires.length := ⟨_, rfl⟩
  rw [← hnn, ← hns, ← hnw] at hbad hnew ⊢
  have HBAD := hid hbad
  have HNEW := hid hnew
  clear hm hf hnn hns hnw hbad hnew
  have HBW := hid ((Below.refl w.heap.size w).alloc (Nat.le_refl _) (.cells #[.slice m.A nn m.c, .int .i64 m.ticks, .slice m.sA ns m.sc, .slice m.wA nw m.wc] 26))
  by_cases he : planChk p = 0
  · have HN := hid (HNEW.out he)
    have HP := hid (planChk_ok he)
    by_cases hin : 0 ≤ n ∧ n ≤ 2000
    · obtain ⟨N, rfl⟩ : ∃ N : Nat, n = N := ⟨n.toNat, by omega⟩
      have hE : Hid (runE p N = 0) := by show _ = _; unfold runE; rw [if_neg (fun e => e he), if_pos hin]
      obtain ⟨hi1, hi2⟩ := hin
      obtain ⟨ie, hie, hz0, hz1, hz2⟩ := info_parts Tryz.infoEvent
      clear HBAD HNEW he
      go_enter Tryz.func14, Tryz.ntmps14
      go_wp2_with fail
      refine (HN.out _ HBW.out).mono ?_
      rintro e w1 ⟨kb, M, rfl, hr⟩
      have HR := hid (hr.base HBW.out)
      clear hr
      go_wp2_with fail
      go_loopw [25, 8] (fun v25 v8 wr => ∃ (t : Nat) (M : KM) (A : Option Addr) (c : Nat), t ≤ N ∧ v25 = .int .i64 t ∧ v8 = .slice A t c ∧ KRun w wr kb p M (runK p t) ∧ Grow w wr 32 4 A t c ((evsTo p t).flatMap Ev.cells) ∧ ∀ j, InA A j → ¬ TF kb M j) (fun v25 _ _ => N - (intOf v25).toNat)
      case atStart => exact ⟨0, M, none, 0, by omega, rfl, rfl, HR.out, Grow.nil HR.out.below, fun j hj => by simp [InA] at hj⟩
      case round =>
        obtain ⟨wo, rfl⟩ : ∃ wo : World, wo = wr := ⟨_, rfl⟩
        obtain ⟨t, M, A, c, htl, rfl, rfl, hk, hg, hap⟩ := hrel
        have HK := hid hk
        have HG := hid hg
        have HAP := hid hap
        clear hk hg hap HR
        by_cases htn : t < N
        · go_wp2_with fail
          refine (tick_run HK.out HP.out (runK_ok HP.out t) (by omega)).mono ?_
          rintro e w2 ⟨M2, rfl, hk2, hkeep, hfr⟩
          obtain ⟨x, hx⟩ : ∃ x, x = evAt p t := ⟨_, rfl⟩
          rw [show (tick p (runK p t)).1 = x from hx.symm]
          have HX := hid hx
          have hrow2 : Row w2 32 4 A t c ((evsTo p t).flatMap Ev.cells) := HG.out.row.through hkeep fun j hj hk => HAP.out j hj (.inl hk)
          have HK2 : Hid (KRun w w2 kb p M2 (runK p (t + 1))) := hk2
          have hap2 : ∀ j, InA A j → ¬ TF kb M2 j := fun j hj hT => (hfr j hT).elim (HAP.out j hj) fun h => by have := HG.out.row.lt j hj; omega
          have HG2 := hid (Grow.mk hrow2 HG.out.fresh hk2.below)
          have HAP2 := hid hap2
          obtain ⟨xt, xr, xp, xw⟩ := x
          simp only []
          clear hk2 hkeep hfr hrow2 hx hap2
          go_wp2_with (at_builtin; refine wpList_append_row _ rfl _ _ 27 rfl 32 ie _ 4 32 Tryz.underlying27 hie hz0 hz1 hz2 rfl (by decide) A t c ((evsTo p t).flatMap Ev.cells) rfl ?c0 (some ⟨w2.heap.size, 0, none⟩) 1 1 (Ev.cells ⟨xt, xr, xp, xw⟩) rfl ?c1 ?c2 ?c3 ?c4 ?_)
          case c0 => exact HG2.out.row.new ((Below.refl _ _).alloc (Nat.le_refl _) _)
          case c1 => exact sl_blk (heap_alloc_new w2 _) 4 1 _ rfl rfl
          case c2 => exact ev_one _
          case c3 => unfold maxLen; omega
          case c4 => omega
          intro A2 c2 w3 hr3 hk3 hn3
          have hg3 := HG2.out.more ((Below.refl _ _).alloc (Nat.le_refl _) _) hr3 hk3 fun j hj => (hn3 j hj).imp_right fun h => by simp at h ⊢; omega
          have hkr := HK2.out.new ((Below.refl w2.heap.size w2).alloc (Nat.le_refl _) (.cells #[.int .i64 xt, .int .i64 xr, .int .i64 xp, .int .i64 xw] 32))
          have hkl := HK2.out.kat.lt
          have hk4 : KRun w w3 kb p M2 (runK p (t + 1)) := ⟨hkr.kat.through hk3 fun j hj hA => HAP2.out j hA hj, hkr.plan, hkr.fresh, hg3.below⟩
          have HG3 := hid hg3
          have HK4 := hid hk4
          have HAP3 : Hid (∀ j, InA A2 j → ¬ TF kb M2 j) := fun j hj hT => (hn3 j hj).elim (fun h => HAP2.out j h hT) fun h => by have := hkl j hT; omega
          clear hg3 hkr hkl hk4 hr3 hk3 hn3
          go_wp2_with fail
          go_roundw
          case rel =>
            refine ⟨t + 1, M2, A2, c2, by omega, by go_num, rfl, HK4.out, ?_, HAP3.out⟩
            rw [evsTo_succ, List.flatMap_append, List.flatMap_cons, List.flatMap_nil, List.append_nil, ← HX.out]
            exact HG3.out
          case measure => simp [intOf]; omega
        · obtain rfl : t = N := by omega
          go_wp2_with fail
          (first | go_ret2 | skip)
          rw [HQ.out]
          exact .inr ⟨hE.out, A, t, c, rfl, rfl, HG.out⟩
    · have hE : Hid (runE p n = 1) := by show _ = _; unfold runE; rw [if_neg (fun e => e he), if_neg hin]
      have hb : n < 0 ∨ (0 ≤ n ∧ 2000 < n) := by omega
      clear HBAD HNEW he hin
      rcases hb with h | ⟨h, h1⟩
      all_goals
        go_enter Tryz.func14, Tryz.ntmps14
        go_wp2_with fail
        refine (HN.out _ HBW.out).mono ?_
        rintro e w1 ⟨kb, M, rfl, hr⟩
        have HB := hid (HBW.out.trans (hr.below.mono HBW.out.size))
        clear hr
        go_wp2_with fail
        (first | go_ret2 | skip)
        rw [HQ.out]
        exact .inl ⟨by rw [hE.out]; decide, by rw [hE.out]; rfl, HB.out⟩
  · have hE : Hid (runE p n = planChk p) := by show _ = _; unfold runE; rw [if_pos he]
    have HB0 := hid (HBAD.out he)
    have HPQ := hid he
    generalize planChk p = q at HB0 HPQ hE
    rw [errV_pos HPQ.out] at HB0
    clear HBAD HNEW he
    go_enter Tryz.func14, Tryz.ntmps14
    go_wp2_with fail
    refine (HB0.out _ HBW.out).mono ?_
    rintro e w1 ⟨rfl, hb1⟩
    have HB := hid (HBW.out.trans (hb1.mono HBW.out.size))
    clear hb1
    go_wp2_with fail
    (first | go_ret2 | skip)
    rw [HQ.out]
    exact .inl ⟨by rw [hE.out]; exact HPQ.out, by rw [hE.out, errV_pos HPQ.out]; rfl, HB.out⟩
end Go.Proofs.YthafahnlfpkkbaaGreatDoor

/- Package trace: the contract of check, for any list of events. -/
namespace Go.Proofs.YthafahnlfpkkbaaGreatDoor
open Go.RowKit
set_option maxRecDepth 100000

def wIn (x lo hi : Int) : Bool := decide (lo ≤ x) && decide (x ≤ hi)
theorem within_any (x lo hi : Int) (w : World) : Calls Tryz.prog 63 #[.int .i64 x, .int .i64 lo, .int .i64 hi] w fun e w' => e = .returned (.bool (wIn x lo hi)) ∧ w' = w := by
  unfold wIn
  by_cases h : lo ≤ x
  · rw [decide_eq_true h, Bool.true_and]
    go_enter Tryz.func63, Tryz.ntmps63
    go_wp2
    go_ret
    exact ⟨rfl, rfl⟩
  · rw [decide_eq_false h, Bool.false_and]
    have d : decide (lo ≤ x) = false := decide_eq_false h
    go_enter Tryz.func63, Tryz.ntmps63
    go_wp2
    go_ret
    exact ⟨rfl, rfl⟩
/-- What is wrong with one event: 0, nothing. -/
def evRight (x : Ev) : Bool := wIn x.tick 0 1000000 && (wIn x.room (-1) 4 && (wIn x.pc 0 19 && wIn x.what 0 5))
def evChk (x : Ev) : Int := if evRight x = false then 1 else if x.room < 0 ∧ (x.pc ≠ 0 ∨ x.what ≠ 0) then 3 else 0
def evsFirst : List Ev → Int
  | [] => 0
  | x :: l => if evChk x ≠ 0 then evChk x else evsFirst l
def evsChk (l : List Ev) : Int := if 2000 < l.length then 4 else evsFirst l
theorem evsFirst_at {l : List Ev} : ∀ {i : Nat} {x : Ev}, (∀ (j : Nat) (y : Ev), j < i → l[j]? = some y → evChk y = 0) → l[i]? = some x → evChk x ≠ 0 → evsFirst l = evChk x := by
  induction l with
  | nil => intro i x _ h; simp at h
  | cons a l ih =>
    intro i x hb hx hn
    cases i with
    | zero => simp at hx; subst hx; unfold evsFirst; rw [if_pos hn]
    | succ i =>
      unfold evsFirst
      rw [if_neg (fun h => h (hb 0 a (by omega) rfl))]
      exact ih (fun j y hj hy => hb (j + 1) y (by omega) hy) hx hn
theorem evsFirst_none {l : List Ev} : (∀ (j : Nat) (y : Ev), l[j]? = some y → evChk y = 0) → evsFirst l = 0 := by
  induction l with
  | nil => intro _; rfl
  | cons a l ih =>
    intro h
    unfold evsFirst
    rw [if_neg (fun e => e (h 0 a rfl))]
    exact ih fun j y hy => h (j + 1) y hy
/-- An event of a list that lies. -/
theorem sl_ev {w : World} {A : Option Addr} {n : Nat} {l : List Ev} (h : Sl w A 4 n (l.flatMap Ev.cells)) {i : Nat} {x : Ev} (hx : l[i]? = some x) (hn : i < n) :
    ∃ b off, A = some ⟨b, off, none⟩ ∧ b < w.heap.size ∧ w.cell? ⟨b, off + i * 4, none⟩ = some (.int .i64 x.tick) ∧ w.cell? ⟨b, off + i * 4 + 1, none⟩ = some (.int .i64 x.room) ∧ w.cell? ⟨b, off + i * 4 + 2, none⟩ = some (.int .i64 x.pc) ∧ w.cell? ⟨b, off + i * 4 + 3, none⟩ = some (.int .i64 x.what) := by
  obtain ⟨b, off, rfl, hlt, hc⟩ := h.2 (by omega)
  have hg := fun j hj => flatMap_get Ev.cells 4 (fun _ => rfl) l i j x hx hj
  refine ⟨b, off, rfl, hlt, ?_, ?_, ?_, ?_⟩
  · have := hc (i * 4 + 0) _ ((hg 0 (by decide)).trans rfl); simpa using this
  · have := hc (i * 4 + 1) _ ((hg 1 (by decide)).trans rfl); rwa [← Nat.add_assoc] at this
  · have := hc (i * 4 + 2) _ ((hg 2 (by decide)).trans rfl); rwa [← Nat.add_assoc] at this
  · have := hc (i * 4 + 3) _ ((hg 3 (by decide)).trans rfl); rwa [← Nat.add_assoc] at this
set_option maxHeartbeats 4000000 in
theorem traceCheck_any (A : Option Addr) (n c : Nat) (l : List Ev) (w : World) (hl : l.length = n) (hs : Sl w A 4 n (l.flatMap Ev.cells)) (hnc : n ≤ c) (_hcm : c ≤ maxLen) :
    Calls Tryz.prog 59 #[.slice A n c] w fun e w' => e = .returned (errV (evsChk l)) ∧ Below w.heap.size w w' := by
  obtain ⟨E, hE⟩ : ∃ E, E = evsChk l := ⟨_, rfl⟩
  rw [← hE]
  have HE := hid hE
  have HS := hid hs
  have HL := hid hl
  clear hE hs hl
  by_cases h2 : 2000 < n
  · have hv : E = 4 := by rw [HE.out]; unfold evsChk; rw [if_pos (by rw [HL.out]; exact h2)]
    rw [hv, errV_pos (by decide)]
    clear hv
    go_enter Tryz.func59, Tryz.ntmps59
    go_wp2_with fail
    go_ret
    exact ⟨rfl, Below.refl _ _⟩
  · have h20 : n ≤ 2000 := by omega
    have HE2 : Hid (E = evsFirst l) := by show _ = _; rw [HE.out]; unfold evsChk; rw [if_neg (by rw [HL.out]; exact h2)]
    clear h2 HE
    go_enter Tryz.func59, Tryz.ntmps59
    go_wp2_with fail
    go_loopw [11] (fun v11 wr => ∃ i : Nat, i ≤ n ∧ v11 = .int .i64 i ∧ Below w.heap.size w wr ∧ ∀ (j : Nat) (y : Ev), j < i → l[j]? = some y → evChk y = 0) (fun v11 _ => n - (intOf v11).toNat)
    case atStart => exact ⟨0, by omega, rfl, Below.refl _ _, fun j y hj => by omega⟩
    case round =>
      obtain ⟨i, hil, rfl, hb, hno⟩ := hrel
      have HB := hid hb
      have HNO := hid hno
      clear hb hno
      by_cases hin : i < n
      · obtain ⟨x, hx⟩ : ∃ x, l[i]? = some x := ⟨_, List.getElem?_eq_getElem (by rw [HL.out]; exact hin)⟩
        obtain ⟨b, off, rfl, hbl, g0, g1, g2, g3⟩ := sl_ev (HS.out.new HB.out) hx hin
        have HX := hid hx
        obtain ⟨xt, xr, xp, xw⟩ := x
        simp only [] at g0 g1 g2 g3
        clear hx
        have hin' : (i : Int) < (n : Int) := by omega
        by_cases hr : evRight ⟨xt, xr, xp, xw⟩ = false
        · have hc : evChk ⟨xt, xr, xp, xw⟩ = 1 := by unfold evChk; rw [if_pos hr]
          have hE1 : E = 1 := by rw [HE2.out, evsFirst_at HNO.out HX.out (by rw [hc]; decide), hc]
          have HE1 := hid hE1
          have hr2 : wIn xt 0 1000000 = false ∨ (wIn xt 0 1000000 = true ∧ wIn xr (-1) 4 = false) ∨ (wIn xt 0 1000000 = true ∧ wIn xr (-1) 4 = true ∧ wIn xp 0 19 = false) ∨ (wIn xt 0 1000000 = true ∧ wIn xr (-1) 4 = true ∧ wIn xp 0 19 = true ∧ wIn xw 0 5 = false) := by
            unfold evRight at hr
            simp only [] at hr
            cases h1 : wIn xt 0 1000000 <;> cases h2 : wIn xr (-1) 4 <;> cases h3 : wIn xp 0 19 <;> cases h4 : wIn xw 0 5 <;> simp_all
          clear hE1 hc hr
          rcases hr2 with q1 | ⟨q1, q2⟩ | ⟨q1, q2, q3⟩ | ⟨q1, q2, q3, q4⟩
          all_goals
            go_wp2_with (go_at_call 63; refine (within_any _ _ _ _).mono ?_; rintro e w9 ⟨rfl, rfl⟩)
            go_ret
            exact ⟨by rw [HE1.out, errV_pos (by decide)]; rfl, HB.out.alloc HB.out.size _⟩
        · have hr2 : wIn xt 0 1000000 = true ∧ wIn xr (-1) 4 = true ∧ wIn xp 0 19 = true ∧ wIn xw 0 5 = true := by
            unfold evRight at hr
            simp only [] at hr
            cases h1 : wIn xt 0 1000000 <;> cases h2 : wIn xr (-1) 4 <;> cases h3 : wIn xp 0 19 <;> cases h4 : wIn xw 0 5 <;> simp_all
          obtain ⟨q1, q2, q3, q4⟩ := hr2
          have hcc : evChk ⟨xt, xr, xp, xw⟩ = if xr < 0 ∧ (xp ≠ 0 ∨ xw ≠ 0) then 3 else 0 := by unfold evChk; rw [if_neg hr]
          clear hr
          by_cases h3 : xr < 0 ∧ (xp ≠ 0 ∨ xw ≠ 0)
          · rw [if_pos h3] at hcc
            have hE1 : E = 3 := by rw [HE2.out, evsFirst_at HNO.out HX.out (by rw [hcc]; decide), hcc]
            have HE1 := hid hE1
            obtain ⟨k1, k2⟩ := h3
            have k3 : ¬ xp = 0 ∨ (xp = 0 ∧ ¬ xw = 0) := by omega
            clear hE1 hcc k2
            rcases k3 with k3 | ⟨k3, k4⟩
            · have b1 : (xp != 0) = true := by simpa using k3
              go_wp2_with (go_at_call 63; refine (within_any _ _ _ _).mono ?_; rintro e w9 ⟨rfl, rfl⟩)
              go_ret
              exact ⟨by rw [HE1.out, errV_pos (by decide)]; rfl, HB.out.alloc HB.out.size _⟩
            · subst k3
              have b1 : (xw != 0) = true := by simpa using k4
              go_wp2_with (go_at_call 63; refine (within_any _ _ _ _).mono ?_; rintro e w9 ⟨rfl, rfl⟩)
              go_ret
              exact ⟨by rw [HE1.out, errV_pos (by decide)]; rfl, HB.out.alloc HB.out.size _⟩
          · rw [if_neg h3] at hcc
            have HCC := hid hcc
            have HN : Hid (∀ (j : Nat) (y : Ev), j < i + 1 → l[j]? = some y → evChk y = 0) := fun j y hj hy => by
              by_cases e : j = i
              · subst e; rw [HX.out] at hy; cases hy; exact HCC.out
              · exact HNO.out j y (by omega) hy
            clear hcc
            have k3 : 0 ≤ xr ∨ (xr < 0 ∧ xp = 0 ∧ xw = 0) := by omega
            clear h3
            rcases k3 with k3 | ⟨k3, k4, k5⟩
            · have b0 : decide (xr < 0) = false := decide_eq_false (by omega)
              go_wp2_with (go_at_call 63; refine (within_any _ _ _ _).mono ?_; rintro e w9 ⟨rfl, rfl⟩)
              go_roundw
              case rel => exact ⟨i + 1, by omega, by go_num, HB.out.alloc HB.out.size _, HN.out⟩
              case measure => simp [intOf]; omega
            · subst k4 k5
              go_wp2_with (go_at_call 63; refine (within_any _ _ _ _).mono ?_; rintro e w9 ⟨rfl, rfl⟩)
              go_roundw
              case rel => exact ⟨i + 1, by omega, by go_num, HB.out.alloc HB.out.size _, HN.out⟩
              case measure => simp [intOf]; omega
      · obtain rfl : i = n := by omega
        have hz : E = 0 := by rw [HE2.out]; exact evsFirst_none fun j y hy => HNO.out j y (by have := (List.getElem?_eq_some_iff.1 hy).1; rw [HL.out] at this; exact this) hy
        have HZ := hid hz
        clear hz
        go_wp2_with fail
        go_ret
        exact ⟨by rw [HZ.out, errV_zero]; rfl, HB.out⟩
end Go.Proofs.YthafahnlfpkkbaaGreatDoor

/- slices.Clone at []api.Event. -/
namespace Go.Proofs.YthafahnlfpkkbaaGreatDoor
open Go.RowKit
set_option maxRecDepth 100000

theorem Tryz.infoClEvent : (Tryz.prog.info? 32).map (fun i => (i.zero, i.size, i.bytes)) = some (some (.agg #[.int .i64 0, .int .i64 0, .int .i64 0, .int .i64 0]), 4, 32) := by kernel_rfl
theorem clone_Event (w : World) (A : Option Addr) (n c : Nat) (xs : List Value) (hone : ∀ u ∈ xs, u.oneCell' = true) (hn : n < 1000000) (hA : A = none → n = 0) (hs : Sl w A 4 n xs) :
    Calls Tryz.prog 65 #[.slice A n c] w (Cloned w 32 4 n xs) := by
  have hnil := fun (w : World) a n c => Lib.run_eql_slice_nil (P := Tryz.prog) w 27 32 a n c 0 0 Tryz.underlying27
  cases A with
  | none =>
    obtain rfl := hA rfl
    have hl : xs = [] := List.eq_nil_of_length_eq_zero (by simpa using hs.1)
    rw [hl]
    clear hl hs hA
    go_enter Tryz.func65, Tryz.ntmps65
    go_wp2
    go_ret
    exact ⟨none, 0, rfl, Row.nil _ _ _, fun k hk => by simp [InA] at hk, Below.refl _ _⟩
  | some a =>
    clear hA
    have HS := hid hs
    clear hs
    obtain ⟨i0, hi, hz0, hz1, hz2⟩ := info_parts Tryz.infoClEvent
    go_enter Tryz.func65, Tryz.ntmps65
    go_wp2_with (at_builtin; refine wpList_append_row _ rfl _ _ 27 rfl 32 i0 (.agg #[.int .i64 0, .int .i64 0, .int .i64 0, .int .i64 0]) 4 32 Tryz.underlying27 hi hz0 hz1 hz2 rfl (by decide) (some ⟨w.heap.size, 0, none⟩) 0 0 [] rfl ?c0 (some a) n c xs rfl ?c1 ?c2 ?c3 ?c4 ?_)
    case c0 => exact ⟨rfl, .inr ⟨_, 0, _, rfl, heap_alloc_new w _, Nat.le_refl _, by simp, by simp, fun j u hu => by simp at hu⟩⟩
    case c1 => exact HS.out.new ((Below.refl _ _).alloc (Nat.le_refl _) _)
    case c2 => exact hone
    case c3 => unfold maxLen; omega
    case c4 => omega
    intro A' cap' w' hrow' hkeep' hin'
    have HR' := hid hrow'
    have HK' := hid hkeep'
    have HI' := hid hin'
    clear hrow' hkeep' hin'
    go_wp2
    go_ret
    have hrow' := HR'.out
    have hrow' : Row w' 32 4 A' n cap' xs := by simpa using hrow'
    refine ⟨A', cap', rfl, hrow', fun k hk => ?_, ?_⟩
    · rcases HI'.out k hk with h | h
      · simp [InA] at h; omega
      · omega
    · have hk := (((Keep.refl NoF w).alloc _).trans HK'.out)
      exact ⟨hk.os, hk.tape, hk.output, hk.size, fun k hk' => hk.block k hk' (by
        rintro (h | h)
        · exact h
        · simp [InA] at h; omega)⟩

end Go.Proofs.YthafahnlfpkkbaaGreatDoor

/- Package trace: the closure of Of, and slices.IndexFunc with it. -/
namespace Go.Proofs.YthafahnlfpkkbaaGreatDoor
open Go.RowKit
set_option maxRecDepth 100000

def otherRoom (R : Int) (x : Ev) : Bool := !decide (x.room = R)
theorem of1_any (x : Ev) (R : Int) (rb : Nat) (w : World) (h : w.cell? ⟨rb, 0, none⟩ = some (.int .i64 R)) :
    Calls Tryz.prog 66 #[.agg #[.int .i64 x.tick, .int .i64 x.room, .int .i64 x.pc, .int .i64 x.what], .pointer (some ⟨rb, 0, none⟩)] w fun e w' => e = .returned (.bool (otherRoom R x)) ∧ Below w.heap.size w w' := by
  obtain ⟨xt, xr, xp, xw⟩ := x
  have hlt := cell_lt h
  unfold otherRoom
  simp only []
  by_cases he : xr = R
  · subst he
    rw [decide_eq_true rfl, Bool.not_true]
    go_enter Tryz.func66, Tryz.ntmps66
    go_wp2_with fail
    go_ret
    exact ⟨by first | rfl | simp, (Below.refl _ _).alloc (Nat.le_refl _) _⟩
  · rw [decide_eq_false he, Bool.not_false]
    have e1 : (xr != R) = true := by simpa using he
    go_enter Tryz.func66, Tryz.ntmps66
    go_wp2_with fail
    go_ret
    exact ⟨rfl, (Below.refl _ _).alloc (Nat.le_refl _) _⟩
/-- The first event of another room: -1, none. -/
def IndexEv (w : World) (l : List Ev) (R : Int) (e : Ending) (w' : World) : Prop :=
  ∃ r : Int, e = .returned (.int .i64 r) ∧ Below w.heap.size w w' ∧ ((r = -1 ∧ ∀ x ∈ l, otherRoom R x = false) ∨ ∃ i : Nat, r = i ∧ i < l.length ∧ (∀ (j : Nat) (x : Ev), j < i → l[j]? = some x → otherRoom R x = false) ∧ ∀ x, l[i]? = some x → otherRoom R x = true)
set_option maxHeartbeats 2000000 in
theorem index_ev (A : Option Addr) (n c : Nat) (l : List Ev) (R : Int) (rb : Nat) (w : World) (hl : l.length = n) (hs : Sl w A 4 n (l.flatMap Ev.cells)) (hnc : n ≤ c) (hn : n ≤ 100000) (h : w.cell? ⟨rb, 0, none⟩ = some (.int .i64 R)) :
    Calls Tryz.prog 110 #[.slice A n c, .func (.func 66) #[] #[.pointer (some ⟨rb, 0, none⟩)]] w (IndexEv w l R) := by
  obtain ⟨Q, hQ⟩ : ∃ Q, Q = IndexEv w l R := ⟨_, rfl⟩
  rw [← hQ]
  have HQ := hid hQ
  have HS := hid hs
  have HL := hid hl
  have HR : Hid (∀ w', Below w.heap.size w w' → w'.cell? ⟨rb, 0, none⟩ = some (.int .i64 R)) := fun w' hb => (hb.cell (p := ⟨rb, 0, none⟩) (cell_lt h)).trans h
  clear hQ hs hl h
  go_enter Tryz.func110, Tryz.ntmps110
  go_wp2_with fail
  go_loopw [8] (fun v8 wr => ∃ k : Nat, k ≤ n ∧ v8 = .int .i64 k ∧ Below w.heap.size w wr ∧ ∀ (j : Nat) (x : Ev), j < k → l[j]? = some x → otherRoom R x = false) (fun v8 _ => n - (intOf v8).toNat)
  case atStart => exact ⟨0, by omega, rfl, Below.refl _ _, fun j s hj => absurd hj (by omega)⟩
  case round =>
    obtain ⟨wo, rfl⟩ : ∃ wo : World, wo = wr := ⟨_, rfl⟩
    obtain ⟨k, hk, rfl, hb, hno⟩ := hrel
    have HNO := hid hno
    have HB := hid hb
    clear hno hb
    by_cases hkl : k < n
    · obtain ⟨x, hx⟩ : ∃ x, l[k]? = some x := ⟨_, List.getElem?_eq_getElem (by rw [HL.out]; exact hkl)⟩
      obtain ⟨b, off, rfl, hbl, g0, g1, g2, g3⟩ := sl_ev (HS.out.new HB.out) hx hkl
      have HX := hid hx
      have hcl : ∀ w', Below wo.heap.size wo w' → Calls Tryz.prog 66 #[.agg #[.int .i64 x.tick, .int .i64 x.room, .int .i64 x.pc, .int .i64 x.what], .pointer (some ⟨rb, 0, none⟩)] w' fun e w'' => e = .returned (.bool (otherRoom R x)) ∧ Below w'.heap.size w' w'' := fun w' hb => of1_any x R rb w' (HR.out w' (HB.out.trans (hb.mono HB.out.size)))
      have hkn : (k : Int) < (n : Int) := by omega
      have HCL := hid hcl
      cases hq : otherRoom R x with
      | true =>
        have HQX := hid hq
        rw [hq] at HCL
        obtain ⟨xt, xr, xp, xw⟩ := x
        simp only [] at g0 g1 g2 g3 HCL
        clear hx hcl hq
        go_wp2_with fail
        refine (HCL.out _ (Below.refl _ _)).mono ?_
        rintro e w1 ⟨rfl, hb1⟩
        have HB1 := hid (HB.out.trans (hb1.mono HB.out.size))
        clear hb1 g0 g1 g2 g3
        go_wp2_with fail
        (first | go_ret | skip)
        rw [HQ.out]
        exact ⟨_, rfl, HB1.out, .inr ⟨k, rfl, by rw [HL.out]; exact hkl, HNO.out, fun y hy => by rw [HX.out] at hy; cases hy; exact HQX.out⟩⟩
      | false =>
        have HQX := hid hq
        rw [hq] at HCL
        obtain ⟨xt, xr, xp, xw⟩ := x
        simp only [] at g0 g1 g2 g3 HCL
        clear hx hcl hq
        go_wp2_with fail
        refine (HCL.out _ (Below.refl _ _)).mono ?_
        rintro e w1 ⟨rfl, hb1⟩
        have HB1 := hid (HB.out.trans (hb1.mono HB.out.size))
        clear hb1 g0 g1 g2 g3
        go_wp2_with fail
        go_roundw
        case rel =>
          refine ⟨k + 1, by omega, by go_num, HB1.out, fun j y hj hy => ?_⟩
          by_cases e : j = k
          · subst e; rw [HX.out] at hy; cases hy; exact HQX.out
          · exact HNO.out j y (by omega) hy
        case measure => simp [intOf]; omega
    · obtain rfl : k = n := by omega
      go_wp2_with fail
      (first | go_ret | skip)
      rw [HQ.out]
      refine ⟨-1, rfl, HB.out, .inl ⟨rfl, fun x hx => ?_⟩⟩
      obtain ⟨j, hj⟩ := List.mem_iff_getElem?.1 hx
      exact HNO.out j x (by have := (List.getElem?_eq_some_iff.1 hj).1; rw [HL.out] at this; exact this) hj
end Go.Proofs.YthafahnlfpkkbaaGreatDoor

/- slices.DeleteFunc at events, with the closure of trace.Of: how many are left; and trace.Of. -/
namespace Go.Proofs.YthafahnlfpkkbaaGreatDoor
open Go.RowKit
set_option maxRecDepth 100000

/-- Several cells of one block are written. -/
theorem Keep.setCells {F : Nat → Prop} {a : World} {b : Nat} (hb : F b) : ∀ (vs : List Value) (o : Nat) (w : World), Keep F a w → Keep F a (w.setCells b o vs)
  | [], _, _, h => h
  | v :: r, o, w, h => by
    rw [World.setCells]
    exact Keep.setCells hb r (o + 1) _ (h.setCell (.inl hb) v)
/-- 'clear' of a slice of some elements of many cells. -/
theorem run_clear_many {P : Program} (w : World) (t e ty : TypeId) (z : Value) (k : Nat) (ht : P.underlying t = some (.slice e)) (hv : ∀ w, (zeroValue e).run P w = .ok z w) (hz : z.cells.size = k) (b o n c : Nat) (hn : 0 < n) (h1 : ∀ v ∈ (Builtin.zeroCells z.cells n).toList, v.oneCell' = true)
    (hc : w.there b o (n * k)) :
    ∃ vs : List Value, (Builtin.clear_ #[t] ty #[.slice (some ⟨b, o, none⟩) n c]).run P w = .ok (.tuple #[]) (w.setCells b o vs) := by
  have hl : (Builtin.zeroCells z.cells n).toList.length = n * k := by simp [Builtin.zeroCells, hz]
  have hst := run_storeCells_cells (P := P) b o (Builtin.zeroCells z.cells n).toList 0 w (by rw [hl]; simpa using fun j hj => (hc j hj).1) (by rw [hl]; simpa using fun j hj => (hc j hj).2) h1
  simp only [Nat.add_zero] at hst
  obtain ⟨m, rfl⟩ : ∃ m, n = m + 1 := ⟨n - 1, by omega⟩
  refine ⟨(Builtin.zeroCells z.cells (m + 1)).toList, ?_⟩
  simp only [Builtin.clear_]
  simp [run_underlying ht, hv, hst]
/-- Events of other rooms are struck: so many are left. -/
def left (R : Int) (l : List Ev) : Nat := (l.filter fun x => !otherRoom R x).length
theorem left_all {R : Int} {l : List Ev} (h : ∀ x ∈ l, otherRoom R x = false) : left R l = l.length := by
  unfold left
  rw [List.filter_eq_self.2 fun x hx => by rw [h x hx]; rfl]
theorem left_take {R : Int} {l : List Ev} {j : Nat} {x : Ev} (hx : l[j]? = some x) : left R (l.take (j + 1)) = left R (l.take j) + if otherRoom R x = false then 1 else 0 := by
  unfold left
  rw [List.take_add_one, hx, Option.toList_some, List.filter_append, List.length_append]
  cases h : otherRoom R x <;> simp [h]
theorem left_le {R : Int} (l : List Ev) : left R l ≤ l.length := List.length_filter_le _ _
/-- Midway: what is not yet read lies as it did. -/
structure DelMid (w wr : World) (b off n : Nat) (xs : List Value) (j : Nat) : Prop where
  rest : ∀ q v, j * 4 ≤ q → xs[q]? = some v → wr.cell? ⟨b, off + q, none⟩ = some v
  there : wr.there b off (n * 4)
  keep : Keep (fun k => k = b) w wr
section
variable {w wr w' : World} {b off n j : Nat} {xs : List Value}
theorem DelMid.new (h : DelMid w wr b off n xs j) (hb : Below wr.heap.size wr w') (hlt : b < wr.heap.size) : DelMid w w' b off n xs j :=
  ⟨fun q v hq hv => (hb.cell (p := ⟨b, off + q, none⟩) hlt).trans (h.rest q v hq hv), fun q hq => ⟨by rw [hb.cell (p := ⟨b, off + q, none⟩) hlt]; exact (h.there q hq).1, by
    have h1 := (h.there q hq).2
    rw [← h1]
    unfold World.frozen?
    rw [hb.block b hlt]⟩, h.keep.then (Keep.of_below NoF hb) fun _ _ hf => hf.elim⟩
theorem DelMid.on (h : DelMid w wr b off n xs j) {j' : Nat} (hj : j ≤ j') : DelMid w wr b off n xs j' := ⟨fun q v hq hv => h.rest q v (by omega) hv, h.there, h.keep⟩
theorem DelMid.put (h : DelMid w wr b off n xs j) {i : Nat} (hi : i < j) (vs : List Value) (hl : vs.length = 4) : DelMid w (wr.setCells b (off + i * 4) vs) b off n xs j :=
  ⟨fun q v hq hv => by
    rw [World.cell?_setCells_out b vs _ wr ⟨b, off + q, none⟩ fun _ _ => .inr (by simp only []; omega)]
    exact h.rest q v hq hv, World.there_setCells h.there _ _ _, Keep.setCells (F := fun k => k = b) rfl _ _ _ h.keep⟩
end
def DelV (w : World) (A : Option Addr) (n : Nat) (R : Int) (l : List Ev) (e : Ending) (w' : World) : Prop := ∃ A' k c', e = .returned (.slice A' k c') ∧ k = left R l ∧ Keep (InA A) w w' ∧ k ≤ n
set_option maxHeartbeats 4000000 in
theorem delete_ev (A : Option Addr) (n c : Nat) (l : List Ev) (R : Int) (rb : Nat) (w : World) (hl : l.length = n) (hs : Row w 32 4 A n c (l.flatMap Ev.cells)) (hn : n ≤ 2000) (h : w.cell? ⟨rb, 0, none⟩ = some (.int .i64 R)) (hap : ¬ InA A rb) :
    Calls Tryz.prog 64 #[.slice A n c, .func (.func 66) #[] #[.pointer (some ⟨rb, 0, none⟩)]] w (DelV w A n R l) := by
  have hix := index_ev A n c l R rb w hl hs.sl hs.le.1 (by omega) h
  unfold IndexEv at hix
  obtain ⟨Q, hQ⟩ : ∃ Q, Q = DelV w A n R l := ⟨_, rfl⟩
  rw [← hQ]
  have HQ := hid hQ
  have HS := hid hs
  have HL := hid hl
  have hrl := cell_lt h
  have hcm := hs.le.2
  unfold maxLen at hcm
  have hnc := hs.le.1
  have HRB := hid h
  clear hQ hs hl h
  go_enter Tryz.func64, Tryz.ntmps64
  go_wp2_with fail
  refine hix.mono ?_
  clear hix
  rintro e w1 ⟨r, rfl, hb1, hr⟩
  have HB1 := hid hb1
  clear hb1
  rcases hr with ⟨rfl, hall⟩ | ⟨i0, rfl, hi0, hno, hyes⟩
  · have HALL := hid hall
    clear hall
    go_wp2_with fail
    (first | go_ret | skip)
    rw [HQ.out]
    exact ⟨A, n, c, rfl, by rw [left_all HALL.out, HL.out], Keep.of_below _ HB1.out, Nat.le_refl _⟩
  · obtain ⟨x0, hx0⟩ : ∃ x, l[i0]? = some x := ⟨_, List.getElem?_eq_getElem hi0⟩
    have hx0r := hyes x0 hx0
    have hlt0 : left R (l.take (i0 + 1)) = i0 := by
      rw [left_take hx0, hx0r, if_neg (by decide), Nat.add_zero, left_all fun x hx => ?_, List.length_take]
      · omega
      · obtain ⟨j, hj⟩ := List.mem_iff_getElem?.1 hx
        have hjl := (List.getElem?_eq_some_iff.1 hj).1
        rw [List.length_take] at hjl
        rw [List.getElem?_take_of_lt (by omega)] at hj
        exact hno j x (by omega) hj
    rw [HL.out] at hi0
    rcases HS.out.2 with ⟨_, h0, _⟩ | ⟨b, off, cur, rfl, hh, h1, h2, h3, h4⟩
    · omega
    have hb1 := (HB1.out.block _ (blk_lt hh)).trans hh
    have hrb : rb ≠ b := fun e => hap (by subst e; rfl)
    have HM0 : Hid (DelMid w w1 b off n (l.flatMap Ev.cells) (i0 + 1)) := by
      refine ⟨fun q v _ hv => (blk_cell hb1 _).trans (h4 q v hv), fun q hq => ⟨?_, blk_free hb1 _⟩, Keep.of_below _ HB1.out⟩
      rw [blk_cell hb1, Array.getElem?_eq_getElem (by omega)]; rfl
    have HLT0 := hid hlt0
    have HBL := hid (blk_lt hh)
    have HRX : Hid (∀ w', Keep (fun k => k = b) w w' → w'.cell? ⟨rb, 0, none⟩ = some (.int .i64 R)) := fun w' hk => (hk.cell hrl hrb).trans HRB.out
    have hneg : ((i0 : Int) == -1) = false := beq_false_of_ne (by omega)
    clear hno hyes hx0 hx0r hh h3 h4 hb1 HB1 hlt0 h1 h2 hap hrl
    go_wp2_with fail
    go_loopw [5, 6] (fun v5 v6 wr => ∃ (i j : Nat), i < j ∧ j ≤ n ∧ v5 = .int .i64 i ∧ v6 = .int .i64 j ∧ i = left R (l.take j) ∧ DelMid w wr b off n (l.flatMap Ev.cells) j) (fun _ v6 _ => n - (intOf v6).toNat)
    case atStart => exact ⟨i0, i0 + 1, by omega, by omega, rfl, rfl, HLT0.out.symm, HM0.out⟩
    case round =>
      obtain ⟨wo, rfl⟩ : ∃ wo : World, wo = wr := ⟨_, rfl⟩
      obtain ⟨i, j, hij, hjn, rfl, rfl, hle, hm⟩ := hrel
      have HLE := hid hle
      have HMD := hid hm
      have hbl : b < wo.heap.size := Nat.lt_of_lt_of_le HBL.out hm.keep.size
      clear hle hm HM0
      by_cases hlt : j < n
      · have hjl : j < l.length := by rw [HL.out]; exact hlt
        obtain ⟨x, hx⟩ : ∃ x, l[j]? = some x := ⟨_, List.getElem?_eq_getElem hjl⟩
        have hg := fun q hq => flatMap_get Ev.cells 4 (fun _ => rfl) l j q x hx hq
        have g0 := HMD.out.rest (j * 4 + 0) _ (by omega) ((hg 0 (by decide)).trans rfl)
        have g1 := HMD.out.rest (j * 4 + 1) _ (by omega) ((hg 1 (by decide)).trans rfl)
        have g2 := HMD.out.rest (j * 4 + 2) _ (by omega) ((hg 2 (by decide)).trans rfl)
        have g3 := HMD.out.rest (j * 4 + 3) _ (by omega) ((hg 3 (by decide)).trans rfl)
        simp only [Nat.add_zero, ← Nat.add_assoc] at g0 g1 g2 g3
        have HLN := hid (left_take (R := R) hx)
        have hjn' : (j : Int) < (n : Int) := by omega
        have hj0 : (0 : Int) ≤ (j : Int) := by omega
        obtain ⟨wx, hwx⟩ : ∃ wx, wx = wo.alloc (.cells #[.int .i64 x.tick, .int .i64 x.room, .int .i64 x.pc, .int .i64 x.what] 32) := ⟨_, rfl⟩
        obtain ⟨xb, hxb⟩ : ∃ xb, xb = wo.heap.size := ⟨_, rfl⟩
        have HBX : Hid (Below wo.heap.size wo wx) := by rw [hwx]; exact (Below.refl _ _).alloc (Nat.le_refl _) _
        have hxx : wx.heap[xb]? = some (.cells #[.int .i64 x.tick, .int .i64 x.room, .int .i64 x.pc, .int .i64 x.what] 32 (0, 0)) := by rw [hwx, hxb]; exact heap_alloc_new wo _
        have HMX := hid (HMD.out.new HBX.out hbl)
        have hcl := of1_any x R rb wx (HRX.out _ HMX.out.keep)
        have HXX := hid hxx
        have HBLX : Hid (b < wx.heap.size) := Nat.lt_of_lt_of_le hbl HBX.out.size
        clear hg hx hjl hxx
        obtain ⟨z, hz⟩ : ∃ z, otherRoom R x = z := ⟨_, rfl⟩
        rw [hz] at hcl HLN
        obtain ⟨xt, xr, xp, xw⟩ := x
        simp only [] at g0 g1 g2 g3 hcl hwx HXX
        clear hz
        go_upto_region 8 with fail
        rw [← hwx, ← hxb]
        clear hwx hxb g0 g1 g2 g3
        have y0 := blk_cell HXX.out 0
        have y1 := blk_cell HXX.out 1
        have y2 := blk_cell HXX.out 2
        have y3 := blk_cell HXX.out 3
        have hly := blk_lt HXX.out
        simp at y0 y1 y2 y3
        go_wp2_with fail
        refine hcl.mono ?_
        clear hcl
        rintro e w3 ⟨rfl, hb3⟩
        have HM3 := hid (HMX.out.new hb3 HBLX.out)
        have hx3 := (hb3.block _ (blk_lt HXX.out)).trans HXX.out
        have HBL3 : Hid (b < w3.heap.size) := Nat.lt_of_lt_of_le HBLX.out hb3.size
        clear hb3 y0 y1 y2 y3 hly
        cases z with
        | true =>
          clear hx3
          go_wp2_with fail
          go_roundw
          case rel => exact ⟨i, j + 1, by omega, by omega, rfl, by go_num, by rw [HLN.out, if_neg (by decide), Nat.add_zero]; exact HLE.out, HM3.out.on (by omega)⟩
          case measure => simp [intOf]; omega
        | false =>
          have y0 := blk_cell hx3 0
          have y1 := blk_cell hx3 1
          have y2 := blk_cell hx3 2
          have y3 := blk_cell hx3 3
          have hly := blk_lt hx3
          simp at y0 y1 y2 y3
          have hin : (i : Int) < (n : Int) := by omega
          have hi0' : (0 : Int) ≤ (i : Int) := by omega
          have HTH : Hid (w3.there b (off + i * 4) 4) := fun q hq => by
            have := HM3.out.there (i * 4 + q) (by omega)
            rw [← Nat.add_assoc] at this
            exact this
          have hb3 := HBL3.out
          clear hx3
          obtain ⟨v0, q0⟩ := Option.isSome_iff_exists.1 (HTH.out 0 (by decide)).1
          obtain ⟨v1, q1⟩ := Option.isSome_iff_exists.1 (HTH.out 1 (by decide)).1
          obtain ⟨v2, q2⟩ := Option.isSome_iff_exists.1 (HTH.out 2 (by decide)).1
          obtain ⟨v3, q3⟩ := Option.isSome_iff_exists.1 (HTH.out 3 (by decide)).1
          have f0 := (HTH.out 0 (by decide)).2
          have f1 := (HTH.out 1 (by decide)).2
          have f2 := (HTH.out 2 (by decide)).2
          have f3 := (HTH.out 3 (by decide)).2
          rw [Nat.add_zero] at q0 f0
          have hm4 : DelMid w ((((w3.setCell ⟨b, off + i * 4, none⟩ (.int .i64 xt)).setCell ⟨b, off + i * 4 + 1, none⟩ (.int .i64 xr)).setCell ⟨b, off + i * 4 + 2, none⟩ (.int .i64 xp)).setCell ⟨b, off + i * 4 + 3, none⟩ (.int .i64 xw)) b off n (l.flatMap Ev.cells) j := HM3.out.put hij [.int .i64 xt, .int .i64 xr, .int .i64 xp, .int .i64 xw] rfl
          obtain ⟨w4, hw4⟩ : ∃ w4, w4 = (((w3.setCell ⟨b, off + i * 4, none⟩ (.int .i64 xt)).setCell ⟨b, off + i * 4 + 1, none⟩ (.int .i64 xr)).setCell ⟨b, off + i * 4 + 2, none⟩ (.int .i64 xp)).setCell ⟨b, off + i * 4 + 3, none⟩ (.int .i64 xw) := ⟨_, rfl⟩
          rw [← hw4] at hm4
          have HM4 := hid hm4
          clear hm4
          go_upto_region 10 with fail
          rw [← hw4]
          clear hw4 q0 q1 q2 q3 f0 f1 f2 f3 y0 y1 y2 y3 hly hb3
          go_wp2_with fail
          go_roundw
          case rel => exact ⟨i + 1, j + 1, by omega, by omega, by go_num, by go_num, by have h5 := HLN.out; have h6 := HLE.out; simp at h5; omega, HM4.out.on (by omega)⟩
          case measure => simp [intOf]; omega
      · obtain rfl : j = n := by omega
        have hln : i = left R l := by rw [HLE.out, List.take_of_length_le (by rw [HL.out]; exact Nat.le_refl _)]
        have hclr := run_clear_many (P := Tryz.prog) wo 27 32 0 (.agg #[.int .i64 0, .int .i64 0, .int .i64 0, .int .i64 0]) 4 Tryz.underlying27 (fun w => by kernel_rfl) rfl b (off + i * 4) (j - i) (c - i) (by omega) (by
          intro v hv
          simp [Builtin.zeroCells] at hv
          obtain ⟨q, _, rfl⟩ := hv
          have hq : q % 4 = 0 ∨ q % 4 = 1 ∨ q % 4 = 2 ∨ q % 4 = 3 := by omega
          rcases hq with hq | hq | hq | hq <;> rw [Value.cells] <;> simp [hq] <;> rfl) (fun q hq => by
          have := HMD.out.there (i * 4 + q) (by omega)
          rw [← Nat.add_assoc] at this
          exact this)
        obtain ⟨vs, hclr⟩ := hclr
        have HLN := hid hln
        have HK : Hid (Keep (fun k => k = b) w (wo.setCells b (off + i * 4) vs)) := Keep.setCells (F := fun k => k = b) rfl _ _ _ HMD.out.keep
        have h1 : i ≤ j := by omega
        have h2 : j ≤ c := hnc
        clear hln hlt hjn
        go_wp2_with fail
        (first | go_ret | skip)
        rw [HQ.out]
        exact ⟨some ⟨b, off, none⟩, i, c, rfl, HLN.out, HK.out.mono fun k _ e => by subst e; rfl, h1⟩

/-- Of, of no events, and of a room that there is not. -/
theorem of_none (w : World) : Calls Tryz.prog 22 #[.slice none 0 0, .int .i64 5] w fun e w' => e = .returned (.tuple #[.slice none 0 0, errV 1]) ∧ Below w.heap.size w w' := by
  have HC : Hid (∀ w' : World, Calls Tryz.prog 59 #[.slice none 0 0] w' fun e w'' => e = .returned .nilIface ∧ Below w'.heap.size w' w'') := fun w' => (traceCheck_any none 0 0 [] w' rfl (Sl.nil _ _ _) (Nat.le_refl _) (Nat.zero_le _)).mono fun e w'' h => by
    have e0 : evsChk [] = 0 := by decide
    rw [e0, errV_zero] at h
    exact h
  have HW : Hid (∀ w' : World, Calls Tryz.prog 63 #[.int .i64 5, .int .i64 (-1), .int .i64 4] w' fun e w'' => e = .returned (.bool false) ∧ w'' = w') := fun w' => (within_any 5 (-1) 4 w').mono fun e w'' h => by
    have e0 : wIn 5 (-1) 4 = false := by decide
    rw [e0] at h
    exact h
  rw [errV_pos (by decide)]
  go_enter Tryz.func22, Tryz.ntmps22
  go_wp2_with fail
  refine (HC.out _).mono ?_
  rintro e w1 ⟨rfl, hb1⟩
  have hx := (hb1.block _ (by simp)).trans (heap_alloc_new w _)
  have x0 := blk_cell hx 0
  have hlx := blk_lt hx
  simp at x0
  have HB1 := hid (((Below.refl w.heap.size w).alloc (Nat.le_refl _) _).trans (hb1.mono (by simp)))
  clear hb1 hx
  go_wp2_with fail
  refine (HW.out _).mono ?_
  rintro e w2 ⟨rfl, rfl⟩
  clear x0 hlx
  go_wp2_with fail
  go_ret2
  exact ⟨rfl, HB1.out⟩
set_option maxHeartbeats 2000000 in
/-- Of, of events that are right. -/
theorem of_good (A : Option Addr) (n c : Nat) (l : List Ev) (R : Int) (w : World) (hl : l.length = n) (hs : Sl w A 4 n (l.flatMap Ev.cells)) (hsw : SlW A c n) (hn : n ≤ 2000) (hev : evsChk l = 0) (hR : wIn R (-1) 4 = true) :
    Calls Tryz.prog 22 #[.slice A n c, .int .i64 R] w fun e w' => ∃ A' k c', e = .returned (.tuple #[.slice A' k c', .nilIface]) ∧ k = left R l ∧ k ≤ n ∧ Below w.heap.size w w' := by
  have HC : Hid (∀ w' : World, Below w.heap.size w w' → Calls Tryz.prog 59 #[.slice A n c] w' fun e w'' => e = .returned .nilIface ∧ Below w'.heap.size w' w'') := fun w' hb => (traceCheck_any A n c l w' hl (hs.new hb) hsw.1 hsw.2.1).mono fun e w'' h => by
    rw [hev, errV_zero] at h
    exact h
  have HW : Hid (∀ w' : World, Calls Tryz.prog 63 #[.int .i64 R, .int .i64 (-1), .int .i64 4] w' fun e w'' => e = .returned (.bool true) ∧ w'' = w') := fun w' => (within_any R (-1) 4 w').mono fun e w'' h => by
    rw [hR] at h
    exact h
  have HCL : Hid (∀ w' : World, Below w.heap.size w w' → Calls Tryz.prog 65 #[.slice A n c] w' (Cloned w' 32 4 n (l.flatMap Ev.cells))) := fun w' hb => clone_Event w' A n c _ (fun u hu => by
    obtain ⟨x, _, hx⟩ := List.mem_flatMap.1 hu
    exact ev_one x u hx) (by omega) (fun hA => by have := hsw.2.2 hA; omega) (hs.new hb)
  unfold Cloned at HCL
  have HL := hid hl
  clear hs hsw hev hR hl
  go_enter Tryz.func22, Tryz.ntmps22
  go_wp2_with fail
  refine (HC.out _ ((Below.refl _ _).alloc (Nat.le_refl _) _)).mono ?_
  rintro e w1 ⟨rfl, hb1⟩
  have hx := (hb1.block _ (by simp)).trans (heap_alloc_new w _)
  have x0 := blk_cell hx 0
  have hlx := blk_lt hx
  simp at x0
  have HX := hid hx
  have HB1 := hid (((Below.refl w.heap.size w).alloc (Nat.le_refl _) _).trans (hb1.mono (by simp)))
  clear hb1 hx
  go_wp2_with fail
  refine (HW.out _).mono ?_
  rintro e w2 ⟨rfl, rfl⟩
  clear x0
  go_wp2_with fail
  refine (HCL.out _ HB1.out).mono ?_
  rintro e w3 ⟨A3, c3, rfl, hr3, hf3, hb3⟩
  have hx3 := (hb3.block _ hlx).trans HX.out
  have hc3 : w3.cell? ⟨w.heap.size, 0, none⟩ = some (.int .i64 R) := (blk_cell hx3 0).trans rfl
  have hdel := delete_ev A3 n c3 l R w.heap.size w3 HL.out hr3 hn hc3 (fun hj => by have := hf3 _ hj; omega)
  have HB3 := hid (HB1.out.trans (hb3.mono HB1.out.size))
  have HF3 := hid (fun j (hj : InA A3 j) => Nat.le_trans HB1.out.size (hf3 j hj))
  unfold DelV at hdel
  clear hx3 hc3 hr3 hf3 hb3
  go_wp2_with fail
  refine hdel.mono ?_
  rintro e w4 ⟨A4, k, c4, rfl, hk, hkp, hkn⟩
  have HB4 : Hid (Below w.heap.size w w4) := HB3.out.trans (hkp.below HB3.out.size HF3.out)
  have HK := hid hk
  clear hkp hk hdel
  go_wp2_with fail
  go_ret2
  exact ⟨A4, k, c4, rfl, HK.out, hkn, HB4.out⟩
end Go.Proofs.YthafahnlfpkkbaaGreatDoor
