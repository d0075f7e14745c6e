/- The walk of framelaw3.TraceTells: it returns true at every input. -/
import Derived.Test.YthafahnlfpkkbaaGreatDoorTraceUn
import Derived.Test.YthafahnlfpkkbaaGreatDoorEvU
import Derived.Test.YthafahnlfpkkbaaGreatDoorSameU
import Derived.Test.YthafahnlfpkkbaaGreatDoorRPlanU
import Derived.Test.YthafahnlfpkkbaaGreatDoorDoorU
import Derived.Test.YthafahnlfpkkbaaGreatDoorStandU
import Derived.Deep.DeepCutAuto
namespace Go.Proofs.YthafahnlfpkkbaaGreatDoor
open Go.RowKit
set_option maxRecDepth 100000

theorem traceTells_ret {w w' : World} {a : Act} (h : a.tmps[10]? = some (.bool true)) (hd : a.defers = []) (hb : Below w.heap.size w w') : bodyPost Tryz.prog Tryz.f3 (fun e w' => e = .returned (.bool true) ∧ Below w.heap.size w w') .ret a w' :=
  bodyPost_ret (v := .bool true) (by simp [results, Tryz.results3, go_sem, h]) hd ⟨rfl, hb⟩
/-- So many ticks are asked of it. -/
def ticksOf (n : Int) : Int := if 200 < n ∧ n ≤ 2000 then n % 200 else n
def Long (n : Int) (b : Bool) : Prop := (b = true ∧ 200 < n ∧ n ≤ 2000) ∨ (b = false ∧ ¬ (200 < n ∧ n ≤ 2000))
def Wrong (E T : Int) (b : Bool) : Prop := (b = true ∧ E = 0 ∧ (T < 0 ∨ 2000 < T)) ∨ (b = false ∧ ¬ (E = 0 ∧ (T < 0 ∨ 2000 < T)))
theorem cnt_next {l : List Ev} {j : Nat} (hj : j < 6) : (cntList l).take (j + 1) = (cntList l).take j ++ [(kindsOf l j : Int)] := by
  have hc : j = 0 ∨ j = 1 ∨ j = 2 ∨ j = 3 ∨ j = 4 ∨ j = 5 := by omega
  rcases hc with rfl | rfl | rfl | rfl | rfl | rfl <;> rfl
theorem bytes_is {a : ByteArray} {l : List UInt8} (h : a.data.toList = l) : a = ⟨l.toArray⟩ := by
  apply ByteArray.ext
  rw [← h]
theorem reads_few {t : List UInt8} {es : List Ev} {E : Int} (h : ReadsAs t es E) : es.length ≤ t.length := by
  rcases h with ⟨l, hw, ht, ⟨_, rfl, _⟩ | ⟨_, rfl, _⟩⟩ | ⟨_, rfl, _⟩
  · rw [← ht]
    have h1 := lines_few (evsText es)
    rw [lines_evs, List.length_map] at h1
    exact h1
  · simp
  · simp
def Idle (a : Value) (w w' : World) (x y : Value) : Prop := x = a ∧ y = .int .i64 0 ∧ w = w'
theorem eqB_self (xs : List Int) : eqB xs xs = true := by unfold eqB; simp

set_option maxHeartbeats 40000000 in
theorem traceTells_walk {w : World} (hg : Handle w) (hf : Forms w) (_ : Names w) (hd : Desk w) (m : PM) (hm : PlanAt w m) (n : Int) (A : Option Addr) (c : Nat) (l : List Ev) (hs : Sl w A 4 l.length (l.flatMap Ev.cells)) (hsw : SlW A c l.length) (r : Int) (t : ByteArray) (ht : t.size ≤ 1073741824) :
    Calls Tryz.prog 3 #[.agg #[.slice m.A m.ros.length m.c, .int .i64 m.ticks, .slice m.sA m.spans.length m.sc, .slice m.wA m.wires.length m.wc], .int .i64 n, .slice A l.length c, .int .i64 r, .string t] w fun e w' => e = .returned (.bool true) ∧ Below w.heap.size w w' := by
  obtain ⟨w1, hw1⟩ : ∃ w1, w1 = w.alloc (.cells #[.slice m.A m.ros.length m.c, .int .i64 m.ticks, .slice m.sA m.spans.length m.sc, .slice m.wA m.wires.length m.wc] 26) := ⟨_, rfl⟩
  have hb1 : Below w.heap.size w w1 := by rw [hw1]; exact (Below.refl _ _).alloc (Nat.le_refl _) _
  have hbox : w1.heap[w.heap.size]? = some (.cells #[.slice m.A m.ros.length m.c, .int .i64 m.ticks, .slice m.sA m.spans.length m.sc, .slice m.wA m.wires.length m.wc] 26 (0, 0)) := by rw [hw1]; exact heap_alloc_new w _
  obtain ⟨ie, hie, hz0, hz1, hz2⟩ := info_parts Tryz.infoEvent
  obtain ⟨ii, hii, hy0, hy1, hy2⟩ := info_parts Tryz.infoInt
  have HERR : Hid (∀ (e : Int) (w' : World), Below w1.heap.size w1 w' → Calls Tryz.prog 15 #[errV e, .int .i64 e] w' fun ev w'' => ev = .returned (.bool true) ∧ Below w'.heap.size w' w'') := hid fun e w' hb => error_same e w' (hg.new (hb1.trans (hb.mono hb1.size)))
  have HD1 : Hid (∀ w', Below w1.heap.size w1 w' → Desk w') := hid fun w' hb => hd.new (hb1.trans (hb.mono hb1.size))
  have HRP : Hid (∀ w', Below w1.heap.size w1 w' → Calls Tryz.prog 11 #[.agg #[.slice m.A m.ros.length m.c, .int .i64 m.ticks, .slice m.sA m.spans.length m.sc, .slice m.wA m.wires.length m.wc]] w' (TellV w' (planChk m.pl))) := hid fun w' hb => rplan_any w' m (hm.new (hb1.trans (hb.mono hb1.size)))
  unfold TellV at HRP
  have HRK : Hid (planChk m.pl = 0 → ∀ w', Below w1.heap.size w1 w' → Calls Tryz.prog 12 #[.agg #[.slice m.A m.ros.length m.c, .int .i64 m.ticks, .slice m.sA m.spans.length m.sc, .slice m.wA m.wires.length m.wc]] w' (RNewd w' m)) := hid fun he w' hb => rnew_run w' m (hm.new (hb1.trans (hb.mono hb1.size))) he
  unfold RNewd at HRK
  have HRUN : Hid (∀ (k : Int) w', Below w1.heap.size w1 w' → Calls Tryz.prog 14 #[.agg #[.slice m.A m.ros.length m.c, .int .i64 m.ticks, .slice m.sA m.spans.length m.sc, .slice m.wA m.wires.length m.wc], .int .i64 k] w' (EvOut w' (runEvs m.pl k) (runE m.pl k))) := hid fun k w' hb => run_un w' m k (hf.new (hb1.trans (hb.mono hb1.size))) (hm.new (hb1.trans (hb.mono hb1.size)))
  unfold EvOut at HRUN
  obtain ⟨nr, hnr⟩ : ∃ nr, m.ros.length = nr := ⟨_, rfl⟩
  obtain ⟨ns, hns⟩ : ∃ ns, m.spans.length = ns := ⟨_, rfl⟩
  obtain ⟨nw, hnw⟩ : ∃ nw, m.wires.length = nw := ⟨_, rfl⟩
  rw [hnr, hns, hnw] at hw1 hbox HRP HRK HRUN ⊢
  obtain ⟨N, hN⟩ : ∃ N, l.length = N := ⟨_, rfl⟩
  rw [hN] at hs hsw ⊢
  have HN := hid hN
  have HSW := hid hsw
  have HB1 := hid hb1
  have HS1 : Hid (∀ w', Below w1.heap.size w1 w' → Sl w' A 4 N (l.flatMap Ev.cells)) := hid fun w' hb => Sl.new hs (hb1.trans (hb.mono hb1.size))
  have HBX : Hid (∀ w', Below w1.heap.size w1 w' → w'.cell? ⟨w.heap.size, 0, none⟩ = some (.slice m.A nr m.c) ∧ w'.cell? ⟨w.heap.size, 1, none⟩ = some (.int .i64 m.ticks) ∧ w'.cell? ⟨w.heap.size, 2, none⟩ = some (.slice m.sA ns m.sc) ∧ w'.cell? ⟨w.heap.size, 3, none⟩ = some (.slice m.wA nw m.wc) ∧ w.heap.size < w'.heap.size) := hid fun w' hb => by
    have h := (hb.block _ (blk_lt hbox)).trans hbox
    have x0 := blk_cell h 0
    have x1 := blk_cell h 1
    have x2 := blk_cell h 2
    have x3 := blk_cell h 3
    simp at x0 x1 x2 x3
    exact ⟨x0, x1, x2, x3, blk_lt h⟩
  have HG := hid hg
  clear hf hd hm hs hsw hN hb1 hbox hnr hns hnw hg
  go_enter Tryz.func3, Tryz.ntmps3
  obtain ⟨T, hT⟩ : ∃ T, T = ticksOf n := ⟨_, rfl⟩
  have HT := hid hT
  clear hT
  go_upto_region 1 with fail
  rw [← hw1]
  clear hw1
  go_cut [38] (fun v wx => (∃ b, v = .bool b ∧ Long n b) ∧ wx = w1)
  case first =>
    as_aux_lemma =>
    rcases (show n ≤ 200 ∨ (200 < n ∧ n ≤ 2000) ∨ (200 < n ∧ 2000 < n) by omega) with h | ⟨h, h'⟩ | ⟨h, h'⟩
    · go_wp2_with fail
      go_meet
      exact ⟨⟨false, rfl, .inr ⟨rfl, by omega⟩⟩, rfl⟩
    · go_wp2_with fail
      go_meet
      exact ⟨⟨true, rfl, .inl ⟨rfl, h, h'⟩⟩, rfl⟩
    · go_wp2_with fail
      go_meet
      exact ⟨⟨_, rfl, .inr ⟨decide_eq_false (by omega), by omega⟩⟩, rfl⟩
  obtain ⟨⟨b38, rfl, hb38⟩, rfl⟩ := hcut
  obtain ⟨w1, rfl⟩ : ∃ w' : World, w' = wc := ⟨_, rfl⟩
  have HB38 := hid hb38
  clear hb38
  go_upto_if 38 with fail
  go_cut [1] (fun v wx => v = .int .i64 T ∧ wx = w1)
  case first =>
    as_aux_lemma =>
    cases b38 with
    | true =>
      rcases HB38.out with ⟨_, h1, h2⟩ | ⟨h, _⟩
      · have q0 : (0 : Int) ≤ n := by omega
        have hT := HT.out
        unfold ticksOf at hT
        rw [if_pos ⟨h1, h2⟩] at hT
        have HT2 := hid hT
        clear hT
        go_wp2_with fail
        go_meet
        exact ⟨by rw [HT2.out], by first | rfl | trivial⟩
      · cases h
    | false =>
      rcases HB38.out with ⟨h, _⟩ | ⟨_, h⟩
      · cases h
      · have hT := HT.out
        unfold ticksOf at hT
        rw [if_neg h] at hT
        have HT2 := hid hT
        clear hT h
        go_wp2_with fail
        go_meet
        exact ⟨by rw [HT2.out], by first | rfl | trivial⟩
  obtain ⟨rfl, rfl⟩ := hcut
  obtain ⟨w1, rfl⟩ : ∃ w' : World, w' = wc := ⟨_, rfl⟩
  clear HB38
  obtain ⟨x0, x1, x2, x3, hlx⟩ := HBX.out w1 (Below.refl _ _)
  obtain ⟨E0, hE0⟩ : ∃ E0, planChk m.pl = E0 := ⟨_, rfl⟩
  rw [hE0] at HRP HRK
  have HE0 := hid hE0
  clear hE0
  go_upto_region 4 with (go_at_call 11; refine (HRP.out w1 (Below.refl _ _)).mono ?_; rintro e w2 ⟨rfl, hb2⟩; have HB2 := hid hb2; clear hb2 x0 x1 x2 x3 hlx)
  go_cut [52] (fun v wx => (∃ b, v = .bool b ∧ Wrong E0 T b) ∧ wx = w2)
  case first =>
    as_aux_lemma =>
    by_cases h0 : E0 = 0
    · subst h0
      rcases (show T < 0 ∨ (0 ≤ T ∧ 2000 < T) ∨ (0 ≤ T ∧ T ≤ 2000) by omega) with h | ⟨h, h'⟩ | ⟨h, h'⟩
      · go_wp2_with fail
        go_meet
        exact ⟨⟨true, rfl, .inl ⟨rfl, rfl, .inl h⟩⟩, rfl⟩
      · go_wp2_with fail
        go_meet
        exact ⟨⟨true, rfl, .inl ⟨rfl, rfl, .inr h'⟩⟩, rfl⟩
      · go_wp2_with fail
        go_meet
        exact ⟨⟨_, rfl, .inr ⟨by rw [decide_eq_false (show ¬ T < 0 by omega), decide_eq_false (show ¬ 2000 < T by omega)]; rfl, by omega⟩⟩, rfl⟩
    · have hd : (E0 == 0) = false := by simpa using h0
      have H0 := hid h0
      clear h0
      go_wp2_with fail
      go_meet
      exact ⟨⟨false, rfl, .inr ⟨rfl, fun h => H0.out h.1⟩⟩, rfl⟩
  obtain ⟨⟨b52, rfl, hb52⟩, rfl⟩ := hcut
  obtain ⟨w2, rfl⟩ : ∃ w' : World, w' = wc := ⟨_, rfl⟩
  have HB52 := hid hb52
  clear hb52
  obtain ⟨E, hE⟩ : ∃ E, E = runE m.pl T := ⟨_, rfl⟩
  have HE := hid hE
  clear hE
  have HEE : Hid (E = if E0 = 0 then (if 0 ≤ T ∧ T ≤ 2000 then 0 else 1) else E0) := hid (by
    rw [HE.out]; unfold runE; rw [HE0.out]
    by_cases h0 : E0 = 0
    · rw [if_neg (fun h => h h0), if_pos h0]
    · rw [if_pos h0, if_neg h0])
  go_upto_if 52 with fail
  go_cut [11] (fun v wx => v = .int .i64 E ∧ wx = w2)
  case first =>
    as_aux_lemma =>
    cases b52 with
    | true =>
      go_wp2_with fail
      go_meet
      refine ⟨?_, by first | rfl | trivial⟩
      rcases HB52.out with ⟨_, h1, h2⟩ | ⟨h, _⟩
      · rw [HEE.out, if_pos h1, if_neg (by omega)]
      · cases h
    | false =>
      go_wp2_with fail
      go_meet
      refine ⟨?_, by first | rfl | trivial⟩
      rcases HB52.out with ⟨h, _⟩ | ⟨_, h⟩
      · cases h
      · rw [HEE.out]
        by_cases h0 : E0 = 0
        · rw [if_pos h0, if_pos (by omega), h0]
        · rw [if_neg h0]
  obtain ⟨rfl, rfl⟩ := hcut
  obtain ⟨w2, rfl⟩ : ∃ w' : World, w' = wc := ⟨_, rfl⟩
  clear HB52
  go_upto_if 54 with fail
  go_cut [12] (fun v wx => ∃ (B : Option Addr) (k d : Nat), v = .slice B k d ∧ Sl wx B 4 k ((runEvs m.pl T).flatMap Ev.cells) ∧ (runEvs m.pl T).length = k ∧ k ≤ d ∧ Below w1.heap.size w1 wx)
  case first =>
    as_aux_lemma =>
    by_cases he : E = 0
    · have h00 : E0 = 0 ∧ 0 ≤ T ∧ T ≤ 2000 := by
        have h := HEE.out
        rw [he] at h
        by_cases h0 : E0 = 0
        · rw [if_pos h0] at h
          by_cases h1 : 0 ≤ T ∧ T ≤ 2000
          · exact ⟨h0, h1⟩
          · rw [if_neg h1] at h; cases h
        · rw [if_neg h0] at h; exact absurd h.symm h0
      obtain ⟨h0, h1, h2⟩ := h00
      have hre : runEvs m.pl T = evsTo m.pl T.toNat := by unfold runEvs; rw [if_pos (by rw [← HE.out]; exact he)]
      have HRE := hid hre
      have HP := hid (planChk_ok (p := m.pl) (by rw [HE0.out]; exact h0))
      have HRKn := hid (HRK.out h0 w2 HB2.out)
      obtain ⟨U, rfl⟩ : ∃ U : Nat, T = U := ⟨T.toNat, by omega⟩
      rw [Int.toNat_natCast] at HRE
      obtain ⟨x0, x1, x2, x3, hlx⟩ := HBX.out w2 HB2.out
      subst he
      clear hre h0
      go_wp2_with fail
      refine HRKn.out.mono ?_
      rintro e w3 ⟨kb, M, rfl, hr, hMP⟩
      have HR := hid hr
      clear hr hMP HRKn x0 x1 x2 x3 hlx
      go_wp2_with fail
      go_loopw [12, 14] (fun v12 v14 wr => ∃ (i : Nat) (M : KM) (B : Option Addr) (d : Nat), i ≤ U ∧ v14 = .int .i64 i ∧ v12 = .slice B i d ∧ RRun w2 wr kb m.pl M (runK m.pl i) ∧ Grow w2 wr 32 4 B i d ((evsTo m.pl i).flatMap Ev.cells) ∧ ∀ j, InA B j → ¬ TF kb M j) (fun _ v14 _ => U - (intOf v14).toNat)
      case atStart => exact ⟨0, M, none, 0, by omega, rfl, rfl, HR.out, Grow.nil HR.out.below, fun j hj => by simp [InA] at hj⟩
      case round =>
        as_aux_lemma =>
        obtain ⟨wo, rfl⟩ : ∃ wo : World, wo = wr := ⟨_, rfl⟩
        obtain ⟨i, M, B, d, hiU, rfl, rfl, hk, hg, hap⟩ := hrel
        have HK := hid hk
        have HGR := hid hg
        have HAP := hid hap
        clear hk hg hap HR
        by_cases hin : i < U
        · go_wp2_with fail
          refine (rtick_run HK.out HP.out (runK_ok HP.out i) (by omega)).mono ?_
          rintro e w5 ⟨M2, rfl, hk2, hkeep, hfr, _⟩
          obtain ⟨x, hx⟩ : ∃ x, x = evAt m.pl i := ⟨_, rfl⟩
          rw [show (tick m.pl (runK m.pl i)).1 = x from hx.symm]
          have HX := hid hx
          have hrow2 : Row w5 32 4 B i d ((evsTo m.pl i).flatMap Ev.cells) := HGR.out.row.through hkeep fun j hj hk => HAP.out j hj (.inl hk)
          have HK2 : Hid (RRun w2 w5 kb m.pl M2 (runK m.pl (i + 1))) := hk2
          have hap2 : ∀ j, InA B j → ¬ TF kb M2 j := fun j hj hT => (hfr j hT).elim (HAP.out j hj) fun h => by have := HGR.out.row.lt j hj; omega
          have HG2 := hid (Grow.mk hrow2 HGR.out.fresh hk2.below)
          have HAP2 := hid hap2
          obtain ⟨xt, xr, xp, xw⟩ := x
          simp only []
          clear hk2 hkeep hfr hrow2 hx hap2
          go_wp2_with (at_builtin; refine wpList_append_row _ rfl _ _ 27 rfl 32 ie _ 4 32 Tryz.underlying27 hie hz0 hz1 hz2 rfl (by decide) B i d ((evsTo m.pl i).flatMap Ev.cells) rfl ?c0 (some ⟨w5.heap.size + 1, 0, none⟩) 1 1 (Ev.cells ⟨xt, xr, xp, xw⟩) rfl ?c1 ?c2 ?c3 ?c4 ?_)
          case c0 => exact HG2.out.row.new (((Below.refl _ w5).alloc (Nat.le_refl _) _).alloc (by simp) _)
          case c1 =>
            have h := heap_alloc_new (w5.alloc (.cells #[.int .i64 xt, .int .i64 xr, .int .i64 xp, .int .i64 xw] 32)) (.cells #[.int .i64 xt, .int .i64 xr, .int .i64 xp, .int .i64 xw] 32)
            rw [sz_alloc] at h
            exact sl_blk h 4 1 _ rfl rfl
          case c2 => exact ev_one _
          case c3 => unfold maxLen; omega
          case c4 => omega
          intro B2 d2 w6 hr3 hk3 hn3
          have hb56 : Below w5.heap.size w5 ((w5.alloc (.cells #[.int .i64 xt, .int .i64 xr, .int .i64 xp, .int .i64 xw] 32)).alloc (.cells #[.int .i64 xt, .int .i64 xr, .int .i64 xp, .int .i64 xw] 32)) := ((Below.refl _ w5).alloc (Nat.le_refl _) _).alloc (by simp) _
          have hg3 := HG2.out.more hb56 hr3 hk3 fun j hj => (hn3 j hj).imp_right fun h => by simp; omega
          have hkr := HK2.out.new hb56
          have hkl := HK2.out.kat.lt
          have hk4 : RRun w2 w6 kb m.pl M2 (runK m.pl (i + 1)) := ⟨hkr.kat.through hk3 fun j hj hA => HAP2.out j hA hj, hkr.plan, hkr.fresh, hg3.below⟩
          have HG3 := hid hg3
          have HK4 := hid hk4
          have HAP3 : Hid (∀ j, InA B2 j → ¬ TF kb M2 j) := fun j hj hT => (hn3 j hj).elim (fun h => HAP2.out j h hT) fun h => by have := hkl j hT; omega
          clear hg3 hkr hkl hk4 hr3 hk3 hn3 hb56
          go_wp2_with fail
          go_roundw
          case rel =>
            refine ⟨i + 1, M2, B2, d2, by omega, by go_num, rfl, HK4.out, ?_, HAP3.out⟩
            rw [evsTo_succ, List.flatMap_append, List.flatMap_cons, List.flatMap_nil, List.append_nil, ← HX.out]
            exact HG3.out
          case measure => simp [intOf]; omega
        · obtain rfl : i = U := by omega
          go_wp2_with fail
          go_meet
          refine ⟨B, i, d, rfl, ?_, ?_, HGR.out.row.le.1, HB2.out.trans (HGR.out.below.mono HB2.out.size)⟩
          · rw [HRE.out]; exact HGR.out.row.sl
          · rw [HRE.out]; exact evsTo_len _ _
    · have hne : (E == 0) = false := by simpa using he
      have hre : runEvs m.pl T = [] := by unfold runEvs; rw [if_neg (by rw [← HE.out]; exact he)]
      have HRE := hid hre
      clear hre he
      go_wp2_with fail
      go_meet
      rw [HRE.out]
      exact ⟨none, 0, 0, rfl, Sl.nil _ _ _, rfl, Nat.le_refl _, HB2.out⟩
  obtain ⟨B, kB, dB, rfl, hsB, hlB, hdB, hbB⟩ := hcut
  obtain ⟨w3, rfl⟩ : ∃ w' : World, w' = wc := ⟨_, rfl⟩
  have HSB := hid hsB
  have HLB := hid hlB
  have HB3 := hid hbB
  obtain ⟨x0, x1, x2, x3, hlx⟩ := HBX.out w3 hbB
  clear hsB hlB hbB
  go_wp2_with fail
  refine (HRUN.out T w3 HB3.out).mono ?_
  rw [← HE.out]
  rintro e w4 ⟨A4, k4, c4, rfl, hs4, hl4, hc4, hb4⟩
  obtain rfl : kB = k4 := HLB.out.symm.trans hl4
  have HB4 := hid (HB3.out.trans (hb4.mono HB3.out.size))
  have HS4 := hid hs4
  have HSB4 := hid (HSB.out.new hb4)
  have hk20 : kB ≤ 140737488355328 := by
    have h := HLB.out
    unfold runEvs at h
    split at h
    · rename_i h1
      rw [← HE.out, HEE.out] at h1
      rw [evsTo_len] at h
      split at h1
      · split at h1 <;> omega
      · omega
    · simp at h; omega
  clear hs4 hl4 hb4 x0 x1 x2 x3 hlx
  go_wp2_with (first
    | (go_at_call 15; refine (HERR.out E w4 HB4.out).mono ?_; rintro e w5 ⟨rfl, hb5⟩; have HB5 := hid (HB4.out.trans (hb5.mono HB4.out.size)); have HSAME := hid (same_evs A4 B kB c4 dB (runEvs m.pl T) w5 HLB.out (HS4.out.new hb5) (HSB4.out.new hb5) hk20 hc4 hdB); clear hb5)
    | (go_at_call 16; refine HSAME.out.mono ?_; rintro e w6 ⟨rfl, nq, hw6⟩; have HB6 : Hid (Below w1.heap.size w1 w6) := hid (by rw [hw6]; exact belowQE HB5.out nq); clear hw6))
  refine (revents_any A N c l w6 HN.out (HS1.out w6 HB6.out)).mono ?_
  rintro e w7 ⟨rfl, hb7⟩
  have HB7 := hid (HB6.out.trans (hb7.mono HB6.out.size))
  clear hb7 HB5 HS4 HSB4 HSB HLB HSAME
  have HPR : Hid (∀ w', Below w1.heap.size w1 w' → Calls Tryz.prog 19 #[.slice A N c] w' (TPrinted w' l)) := hid fun w' hb => tprint_any A N c l w' HN.out (HD1.out w' hb).pows (HS1.out w' hb) HSW.out
  have HCN := hid (fun (w' : World) (hb : Below w1.heap.size w1 w') => counts_un A N c l w' HN.out (HS1.out w' hb) HSW.out)
  have HOF : Hid (∀ w', Below w1.heap.size w1 w' → Calls Tryz.prog 22 #[.slice A N c, .int .i64 r] w' (EvOut w' (ofL l r) (ofE l r))) := hid fun w' hb => of_un A N c l r w' HN.out (HS1.out w' hb) HSW.out
  unfold TPrinted at HPR
  unfold EvOut at HOF
  obtain ⟨E2, hE2⟩ : ∃ E2, E2 = evsChk l := ⟨_, rfl⟩
  rw [← hE2] at HPR HCN ⊢
  have HE2 := hid hE2
  clear hE2 hk20 hdB hc4
  by_cases he : E2 = 0
  · as_aux_lemma =>
    subst he
    have hchk : evsChk l = 0 := HE2.out.symm
    have h20 := (evs_each hchk).1
    rw [HN.out] at h20
    have HWF : Hid (∀ x ∈ l, WfEv x) := hid (wfevs_ok hchk).2
    have hce : cntsOf l = cntList l := by unfold cntsOf; rw [if_pos hchk]
    rw [hce, errV_zero] at HCN
    rw [if_pos rfl, errV_zero] at HPR
    have HERR0 : Hid (∀ (w' : World), Below w1.heap.size w1 w' → Calls Tryz.prog 15 #[.nilIface, .int .i64 0] w' fun ev w'' => ev = .returned (.bool true) ∧ Below w'.heap.size w' w'') := hid fun w' hb => by
      have h := HERR.out 0 w' hb
      rw [errV_zero] at h
      exact h
    obtain ⟨X, hX⟩ : ∃ X : ByteArray, X = ⟨(evsText l).toArray⟩ := ⟨_, rfl⟩
    unfold txt at HPR
    rw [← hX] at HPR
    have HX0 := hid hX
    have HCHK := hid hchk
    clear hX hce hchk
    go_wp2_with fail
    go_loopw [20, 21] (fun v20 v21 wr => ∃ (j : Nat) (D : Option Addr) (d : Nat), j ≤ 6 ∧ v21 = .int .i64 j ∧ v20 = .slice D j d ∧ Row wr 3 1 D j d (ints ((cntList l).take j)) ∧ (∀ i, InA D i → w7.heap.size ≤ i) ∧ Below w7.heap.size w7 wr) (fun _ v21 _ => 6 - (intOf v21).toNat)
    case atStart => exact ⟨0, none, 0, by omega, rfl, rfl, Row.nil _ _ _, fun i hi => by simp [InA] at hi, Below.refl _ _⟩
    case round =>
      as_aux_lemma =>
      obtain ⟨wo, rfl⟩ : ∃ wo : World, wo = wr := ⟨_, rfl⟩
      obtain ⟨j, D, d, hj, rfl, rfl, hrow, hfr, hb⟩ := hrel
      have HRW := hid hrow
      have HFR := hid hfr
      have HBQ := hid hb
      have HBO := hid (HB7.out.trans (hb.mono HB7.out.size))
      clear hrow hfr hb
      by_cases hj6 : j < 6
      · go_wp2_with fail
        go_loopw [22, 23] (fun v22 v23 wr2 => ∃ i : Nat, i ≤ N ∧ v23 = .int .i64 i ∧ v22 = .int .i64 (kindsOf (l.take i) j : Nat) ∧ wo = wr2) (fun _ v23 _ => N - (intOf v23).toNat)
        case atStart => exact ⟨0, by omega, rfl, rfl, rfl⟩
        case round =>
          as_aux_lemma =>
          obtain ⟨i, hiN, rfl, rfl, rfl⟩ := hrel
          by_cases hin : i < N
          · obtain ⟨x, hx⟩ : ∃ x, l[i]? = some x := ⟨_, List.getElem?_eq_getElem (by rw [HN.out]; exact hin)⟩
            obtain ⟨b, off, hAb, hbl, g0, g1, g2, g3⟩ := sl_ev (HS1.out wo HBO.out) hx hin
            subst hAb
            have htk : l.take (i + 1) = l.take i ++ [x] := by rw [List.take_add_one, hx]; rfl
            have hkn := kinds_snoc (l.take i) x j
            rw [← htk] at hkn
            have hkb : kindsOf (l.take i) j ≤ 2000 := by
              have h1 := cntF_le Ev.what (l.take i) j
              rw [List.length_take] at h1
              unfold kindsOf; omega
            obtain ⟨xt, xr, xp, xw⟩ := x
            simp only [] at g0 g1 g2 g3 hkn
            have HKN := hid hkn
            obtain ⟨K, hK⟩ : ∃ K, kindsOf (l.take i) j = K := ⟨_, rfl⟩
            rw [hK] at HKN hkb ⊢
            clear hx htk hkn hK g0 g1 g2
            by_cases hw : xw = (j : Int)
            · have hbw : (xw == (j : Int)) = true := by rw [hw]; simp
              have hk1 : Hid (kindsOf (l.take (i + 1)) j = K + 1) := hid (by rw [HKN.out, if_pos hw])
              go_wp2_with fail
              go_roundw
              case rel => exact ⟨i + 1, by omega, by go_num, by rw [hk1.out]; go_num, by first | rfl | trivial⟩
              case measure => simp [intOf]; omega
            · have hbw : (xw == (j : Int)) = false := by rw [beq_eq_false_iff_ne]; exact hw
              have hk1 : Hid (kindsOf (l.take (i + 1)) j = K) := hid (by rw [HKN.out, if_neg hw]; rfl)
              go_wp2_with fail
              go_roundw
              case rel => exact ⟨i + 1, by omega, by go_num, by rw [hk1.out], by first | rfl | trivial⟩
              case measure => simp [intOf]; omega
          · obtain rfl : i = N := by omega
            have htk : l.take i = l := by rw [← HN.out, List.take_length]
            rw [htk]
            have HNX := hid (cnt_next (l := l) hj6)
            obtain ⟨K, hK⟩ : ∃ K, kindsOf l j = K := ⟨_, rfl⟩
            rw [hK] at HNX ⊢
            clear htk hK
            go_wp2_with (at_builtin; refine wpList_append_row _ rfl _ _ 41 rfl 3 ii (.int .i64 0) 1 8 Tryz.underlying41 hii hy0 hy1 hy2 rfl (by decide) D j d (ints ((cntList l).take j)) rfl ?c0 (some ⟨wo.heap.size, 0, none⟩) 1 1 [.int .i64 K] rfl ?c1 ?c2 ?c3 ?c4 ?_)
            case c0 => exact HRW.out.alloc _
            case c1 => exact one_sl wo _ _
            case c2 => intro u hu; simp at hu; subst hu; rfl
            case c3 => unfold maxLen; omega
            case c4 => omega
            intro D' d' w8 hr8 hk8 hi8
            have HR8 := hid hr8
            have HK8 := hid hk8
            have HI8 := hid hi8
            clear hr8 hk8 hi8
            go_wp2_with fail
            go_roundw
            case rel =>
              refine ⟨j + 1, D', d', by omega, by go_num, rfl, ?_, ?_, keep_own HBQ.out HFR.out HK8.out⟩
              · rw [HNX.out]
                unfold ints
                rw [List.map_append]
                exact HR8.out
              · intro k hk
                rcases HI8.out k hk with h | h
                · exact HFR.out k h
                · have := HBQ.out.size; omega
            case measure => simp [intOf]; omega
      · obtain rfl : j = 6 := by omega
        have h6 : (cntList l).take 6 = cntList l := rfl
        rw [h6] at HRW
        clear h6
        rw [show ((6 : Nat) : Int) = 6 from rfl]
        go_wp2_with fail
        go_loopw [19, 24] (fun v19 v24 wr => ∃ (i : Nat) (S : ByteArray), i ≤ N ∧ v24 = .int .i64 i ∧ v19 = .string S ∧ S.data.toList = evsText (l.take i) ∧ S.size ≤ 40 * i ∧ Below wo.heap.size wo wr) (fun _ v24 _ => N - (intOf v24).toNat)
        case atStart => exact ⟨0, ⟨#[]⟩, by omega, rfl, rfl, rfl, Nat.le_refl _, Below.refl _ _⟩
        case round =>
          as_aux_lemma =>
          obtain ⟨wp, rfl⟩ : ∃ wp : World, wp = wr := ⟨_, rfl⟩
          obtain ⟨i, S, hiN, rfl, rfl, hS, hSz, hb⟩ := hrel
          have HSS := hid hS
          have HBP := hid (HBO.out.trans (hb.mono HBO.out.size))
          have HBOP := hid hb
          clear hS hb
          by_cases hin : i < N
          · obtain ⟨x, hx⟩ : ∃ x, l[i]? = some x := ⟨_, List.getElem?_eq_getElem (by rw [HN.out]; exact hin)⟩
            obtain ⟨b, off, hAb, hbl, g0, g1, g2, g3⟩ := sl_ev (HS1.out wp HBP.out) hx hin
            subst hAb
            have hwx := HWF.out x (List.mem_of_getElem? hx)
            have HNX := hid (evs_next hx)
            have hle := ev_le hwx
            have hlT : (evText x).length = (evLine x).length + 1 := by unfold evText; simp
            have HTX := hid (revtext_any x hwx)
            obtain ⟨xt, xr, xp, xw⟩ := x
            simp only [] at g0 g1 g2 g3 HTX
            clear hx hwx
            have h10 : (ByteArray.mk #[10]).size = 1 := rfl
            go_wp2_with fail
            refine (HTX.out wp).mono ?_
            rintro e wt ⟨T2, rfl, hT2, hbt⟩
            have hTs : T2.size ≤ 31 := by rw [Lib.size_eq, hT2]; omega
            have HT2 := hid hT2
            have HBT := hid (HBOP.out.trans (hbt.mono HBOP.out.size))
            clear hT2 hbt g0 g1 g2 g3 hle hlT HTX
            go_wp2_with fail
            go_roundw
            case rel =>
              refine ⟨i + 1, _, by omega, by go_num, rfl, ?_, ?_, HBT.out⟩
              · rw [HNX.out]
                unfold evText
                have e1 := HSS.out
                have e2 := HT2.out
                simp only [ByteArray.data_append, Array.toList_append, e1, e2, List.append_assoc]
              · simp only [ByteArray.size_append, h10]; omega
            case measure => simp [intOf]; omega
          · obtain rfl : i = N := by omega
            have hSX : S = X := by
              have h := HSS.out
              rw [← HN.out, List.take_length] at h
              rw [HX0.out]; exact bytes_is h
            subst hSX
            have HRP := hid (HRW.out.new HBOP.out)
            clear hSz HSS
            go_wp2_with fail
            refine (HPR.out wp HBP.out).mono ?_
            rintro e w8 ⟨rfl, hb8⟩
            have HB8 := hid (HBP.out.trans (hb8.mono HBP.out.size))
            have HRP8 := hid (HRP.out.new hb8)
            clear hb8
            go_wp2_with (go_at_call 15; refine (HERR0.out w8 HB8.out).mono ?_; rintro e w9 ⟨rfl, hb5⟩; have HB9 := hid (HB8.out.trans (hb5.mono HB8.out.size)); have HRP9 := hid (HRP8.out.new hb5); clear hb5)
            refine (HCN.out w9 HB9.out).mono ?_
            rintro e wa ⟨Bc, kc, dc, rfl, hsc, hlc, hdc, hbc⟩
            obtain rfl : kc = 6 := by rw [← hlc]; rfl
            have HBA := hid (HB9.out.trans (hbc.mono HB9.out.size))
            have HSC := hid hsc
            have HRPA := hid (HRP9.out.new hbc)
            clear hsc hlc hbc
            go_upto_region 38 with (first
              | (go_at_call 15; refine (HERR0.out wa HBA.out).mono ?_; rintro e wb ⟨rfl, hb5⟩; have HBB := hid (HBA.out.trans (hb5.mono HBA.out.size)); have HIN := hid (ints_any Bc D 6 6 dc d (cntList l) (cntList l) wb (HSC.out.new hb5) (HRPA.out.new hb5).sl (by omega) (by omega) (by omega) (HRPA.out.le.1)); clear hb5)
              | (go_at_call 21; refine HIN.out.mono ?_; rw [eqB_self]; rintro e wc2 ⟨rfl, nqi, hwi⟩; have HBC : Hid (Below w1.heap.size w1 wc2) := hid (by rw [hwi]; exact belowQE HBB.out nqi); clear hwi))
            by_cases hr : r < -1 ∨ 4 < r
            · have hoe : ofE l r = 1 := by unfold ofE; rw [if_neg (fun h => h HCHK.out), if_pos hr]
              have hol : ofL l r = [] := by unfold ofL; rw [if_neg (by rw [hoe]; decide)]
              rw [hoe, hol] at HOF
              clear hoe hol
              go_upto_region 39 with fail
              go_cut [165] (fun v wx => v = .bool true ∧ wc2 = wx)
              case first =>
                as_aux_lemma =>
                rcases (show r < -1 ∨ (-1 ≤ r ∧ 4 < r) by omega) with h | ⟨h, h'⟩
                · clear hr
                  go_wp2_with fail
                  go_meet
                  exact ⟨by first | rfl | trivial, by first | rfl | trivial⟩
                · clear hr
                  go_wp2_with fail
                  go_meet
                  exact ⟨by first | rfl | trivial, by first | rfl | trivial⟩
              obtain ⟨rfl, rfl⟩ := hcut
              go_wp2_with fail
              go_loopw [12, 30] (fun v12 v30 wr => Idle (.slice none 0 0) wc2 wr v12 v30) (fun _ _ _ => 0)
              case atStart => exact ⟨rfl, rfl, rfl⟩
              case round =>
                as_aux_lemma =>
                obtain ⟨rfl, rfl, rfl⟩ := hrel
                go_upto_region 42 with fail
                go_cut [173] (fun v wx => v = .bool false ∧ wc2 = wx)
                case first =>
                  as_aux_lemma =>
                  rcases (show i = 0 ∨ 0 < i by omega) with hN0 | hN0
                  · subst hN0
                    go_wp2_with fail
                    go_meet
                    exact ⟨by first | rfl | trivial, by first | rfl | trivial⟩
                  · go_wp2_with fail
                    go_meet
                    exact ⟨by first | rfl | trivial, by first | rfl | trivial⟩
                obtain ⟨rfl, rfl⟩ := hcut
                go_wp2_with fail
                refine (HOF.out wc2 HBC.out).mono ?_
                rintro e wd ⟨Ao, ko, co, rfl, hso, hlo, hco, hbo⟩
                obtain rfl : ko = 0 := by rw [← hlo]; rfl
                have HBD := hid (HBC.out.trans (hbo.mono HBC.out.size))
                have HSO := hid hso
                clear hso hlo hbo
                go_wp2_with (first
                  | (go_at_call 15; refine (HERR.out 1 wd HBD.out).mono ?_; rintro e we2 ⟨rfl, hb5⟩; have HBE := hid (HBD.out.trans (hb5.mono HBD.out.size)); have HSAME := hid (same_evs Ao none 0 co 0 [] we2 rfl (HSO.out.new hb5) (Sl.nil _ _ _) (by omega) (by omega) (by omega)); clear hb5)
                  | (go_at_call 16; refine HSAME.out.mono ?_; rintro e wf ⟨rfl, nqo, hwo⟩; have HBF : Hid (Below w1.heap.size w1 wf) := hid (by rw [hwo]; exact belowQE HBE.out nqo); clear hwo))
                go_wp2_with fail
                refine (rread_un t ht wf).mono ?_
                rintro e wr1 ⟨es, E5, A8, k8, c8, hra, rfl, hs8, hl8, hc8, hbr1⟩
                have HRA := hid hra
                have HS8 := hid hs8
                have HL8 := hid hl8
                have HBR1 := hid (HBF.out.trans (hbr1.mono HBF.out.size))
                clear hra hs8 hl8 hbr1
                go_wp2_with fail
                refine (parse_un t ht wr1 (HD1.out wr1 HBR1.out)).mono ?_
                rintro e wr2 ⟨es', E5', hra, A9, k9, c9, rfl, hs9, hl9, hc9, hbr2⟩
                obtain ⟨rfl, rfl⟩ := HRA.out.one hra
                obtain rfl : k8 = k9 := HL8.out.symm.trans hl9
                have HBR2 := hid (HBR1.out.trans (hbr2.mono HBR1.out.size))
                have HS8' := hid (HS8.out.new hbr2)
                have HS9 := hid hs9
                have hk8 : k8 ≤ 140737488355328 := by
                  have h := reads_few HRA.out
                  rw [HL8.out] at h
                  rw [← Lib.size_eq] at h
                  omega
                clear hra hs9 hl9 hbr2
                go_wp2_with (first
                  | (go_at_call 15; refine (HERR.out E5 wr2 HBR2.out).mono ?_; rintro e wr3 ⟨rfl, hb5⟩; have HBR3 := hid (HBR2.out.trans (hb5.mono HBR2.out.size)); have HSAME5 := hid (same_evs A9 A8 k8 c9 c8 es wr3 HL8.out (HS9.out.new hb5) (HS8'.out.new hb5) hk8 hc9 hc8); clear hb5)
                  | (go_at_call 16; refine HSAME5.out.mono ?_; rintro e wr4 ⟨rfl, nq5, hw6⟩; have HBR4 : Hid (Below w1.heap.size w1 wr4) := hid (by rw [hw6]; exact belowQE HBR3.out nq5); clear hw6))
                exact traceTells_ret rfl rfl (HB1.out.trans (HBR4.out.mono HB1.out.size))
            · have hoe : ofE l r = 0 := by unfold ofE; rw [if_neg (fun h => h HCHK.out), if_neg hr]
              have hol : ofL l r = keptR r l := by unfold ofL; rw [if_pos hoe]
              rw [hoe, hol, errV_zero] at HOF
              have hr0 : -1 ≤ r := by omega
              have hr4 : r ≤ 4 := by omega
              clear hoe hol hr
              go_wp2_with fail
              go_loopw [12, 30] (fun v12 v30 wr => ∃ (q k : Nat) (D2 : Option Addr) (d2 : Nat), q ≤ i ∧ k ≤ q ∧ v30 = .int .i64 q ∧ v12 = .slice D2 k d2 ∧ (keptR r (l.take q)).length = k ∧ Row wr 32 4 D2 k d2 ((keptR r (l.take q)).flatMap Ev.cells) ∧ (∀ z, InA D2 z → wc2.heap.size ≤ z) ∧ Below wc2.heap.size wc2 wr) (fun _ v30 _ => i - (intOf v30).toNat)
              case atStart => exact ⟨0, 0, none, 0, by omega, by omega, rfl, rfl, rfl, Row.nil _ _ _, fun z hz => by simp [InA] at hz, Below.refl _ _⟩
              case round =>
                as_aux_lemma =>
                obtain ⟨wq, rfl⟩ : ∃ wq : World, wq = wr := ⟨_, rfl⟩
                obtain ⟨q, k, D2, d2, hqi, hkq, rfl, rfl, hkl, hrow2, hfr2, hb2⟩ := hrel
                have HKL := hid hkl
                have HRQ := hid hrow2
                have HFQ := hid hfr2
                have HBQ2 := hid hb2
                have HBQ1 := hid (HBC.out.trans (hb2.mono HBC.out.size))
                clear hkl hrow2 hfr2 hb2
                by_cases hqn : q < i
                · obtain ⟨x, hx⟩ : ∃ x, l[q]? = some x := ⟨_, List.getElem?_eq_getElem (by rw [HN.out]; exact hqn)⟩
                  obtain ⟨b, off, hAb, hbl, g0, g1, g2, g3⟩ := sl_ev (HS1.out wq HBQ1.out) hx hqn
                  subst hAb
                  have hkt := kept_take (R := r) hx
                  obtain ⟨xt, xr, xp, xw⟩ := x
                  simp only [] at g0 g1 g2 g3
                  have HKT := hid hkt
                  clear hx hkt
                  by_cases hw : xr = r
                  · subst hw
                    have ho : otherRoom xr ⟨xt, xr, xp, xw⟩ = false := by unfold otherRoom; simp
                    rw [ho, if_pos rfl] at HKT
                    clear ho
                    go_wp2_with (at_builtin; refine wpList_append_row _ rfl _ _ 27 rfl 32 ie _ 4 32 Tryz.underlying27 hie hz0 hz1 hz2 rfl (by decide) D2 k d2 ((keptR xr (l.take q)).flatMap Ev.cells) rfl ?c0 (some ⟨wq.heap.size, 0, none⟩) 1 1 (Ev.cells ⟨xt, xr, xp, xw⟩) rfl ?c1 ?c2 ?c3 ?c4 ?_)
                    case c0 => exact HRQ.out.alloc _
                    case c1 => exact sl_blk (heap_alloc_new wq _) 4 1 _ rfl rfl
                    case c2 => exact ev_one _
                    case c3 => unfold maxLen; omega
                    case c4 => omega
                    intro D3 d3 w8 hr8 hk8 hi8
                    have HR8 := hid hr8
                    have HK8 := hid hk8
                    have HI8 := hid hi8
                    clear hr8 hk8 hi8
                    go_wp2_with fail
                    go_roundw
                    case rel =>
                      refine ⟨q + 1, k + 1, D3, d3, by omega, by omega, by go_num, rfl, by rw [HKT.out, List.length_append, HKL.out]; rfl, ?_, ?_, keep_own HBQ2.out HFQ.out HK8.out⟩
                      · rw [HKT.out, List.flatMap_append]
                        simpa using HR8.out
                      · intro z hz
                        rcases HI8.out z hz with h | h
                        · exact HFQ.out z h
                        · have := HBQ2.out.size; omega
                    case measure => simp [intOf]; omega
                  · have hbw : (xr == r) = false := by rw [beq_eq_false_iff_ne]; exact hw
                    have ho : otherRoom r ⟨xt, xr, xp, xw⟩ = true := by unfold otherRoom; simpa using hw
                    rw [ho, if_neg (by decide), List.append_nil] at HKT
                    clear ho
                    go_wp2_with fail
                    go_roundw
                    case rel => exact ⟨q + 1, k, D2, d2, by omega, by omega, by go_num, rfl, by rw [HKT.out]; exact HKL.out, by rw [HKT.out]; exact HRQ.out, HFQ.out, HBQ2.out⟩
                    case measure => simp [intOf]; omega
                · obtain rfl : q = i := by omega
                  have htk : l.take q = l := by rw [← HN.out, List.take_length]
                  rw [htk] at HKL HRQ
                  clear htk
                  go_wp2_with fail
                  refine (HOF.out wq HBQ1.out).mono ?_
                  rintro e wd ⟨Ao, ko, co, rfl, hso, hlo, hco, hbo⟩
                  obtain rfl : k = ko := HKL.out.symm.trans hlo
                  have HBD := hid (HBQ1.out.trans (hbo.mono HBQ1.out.size))
                  have HSO := hid hso
                  have HRD := hid (HRQ.out.new hbo)
                  clear hso hlo hbo
                  go_wp2_with (first
                    | (go_at_call 15; refine (HERR0.out wd HBD.out).mono ?_; rintro e we2 ⟨rfl, hb5⟩; have HBE := hid (HBD.out.trans (hb5.mono HBD.out.size)); have HSAME := hid (same_evs Ao D2 k co d2 (keptR r l) we2 HKL.out (HSO.out.new hb5) (HRD.out.new hb5).sl (by omega) hco HRD.out.le.1); clear hb5)
                    | (go_at_call 16; refine HSAME.out.mono ?_; rintro e wf ⟨rfl, nqo, hwo⟩; have HBF : Hid (Below w1.heap.size w1 wf) := hid (by rw [hwo]; exact belowQE HBE.out nqo); clear hwo))
                  go_wp2_with fail
                  refine (rread_un t ht wf).mono ?_
                  rintro e wr1 ⟨es, E5, A8, k8, c8, hra, rfl, hs8, hl8, hc8, hbr1⟩
                  have HRA := hid hra
                  have HS8 := hid hs8
                  have HL8 := hid hl8
                  have HBR1 := hid (HBF.out.trans (hbr1.mono HBF.out.size))
                  clear hra hs8 hl8 hbr1
                  go_wp2_with fail
                  refine (parse_un t ht wr1 (HD1.out wr1 HBR1.out)).mono ?_
                  rintro e wr2 ⟨es', E5', hra, A9, k9, c9, rfl, hs9, hl9, hc9, hbr2⟩
                  obtain ⟨rfl, rfl⟩ := HRA.out.one hra
                  obtain rfl : k8 = k9 := HL8.out.symm.trans hl9
                  have HBR2 := hid (HBR1.out.trans (hbr2.mono HBR1.out.size))
                  have HS8' := hid (HS8.out.new hbr2)
                  have HS9 := hid hs9
                  have hk8 : k8 ≤ 140737488355328 := by
                    have h := reads_few HRA.out
                    rw [HL8.out] at h
                    rw [← Lib.size_eq] at h
                    omega
                  clear hra hs9 hl9 hbr2
                  go_wp2_with (first
                    | (go_at_call 15; refine (HERR.out E5 wr2 HBR2.out).mono ?_; rintro e wr3 ⟨rfl, hb5⟩; have HBR3 := hid (HBR2.out.trans (hb5.mono HBR2.out.size)); have HSAME5 := hid (same_evs A9 A8 k8 c9 c8 es wr3 HL8.out (HS9.out.new hb5) (HS8'.out.new hb5) hk8 hc9 hc8); clear hb5)
                    | (go_at_call 16; refine HSAME5.out.mono ?_; rintro e wr4 ⟨rfl, nq5, hw6⟩; have HBR4 : Hid (Below w1.heap.size w1 wr4) := hid (by rw [hw6]; exact belowQE HBR3.out nq5); clear hw6))
                  exact traceTells_ret rfl rfl (HB1.out.trans (HBR4.out.mono HB1.out.size))
  · as_aux_lemma =>
    have hd : (E2 == 0) = false := by simpa using he
    have hce : cntsOf l = [] := by unfold cntsOf; rw [if_neg (by rw [← HE2.out]; exact he)]
    have hoe : ofE l r = E2 := by unfold ofE; rw [← HE2.out, if_pos he]
    have hol : ofL l r = [] := by unfold ofL; rw [hoe, if_neg he]
    rw [hce] at HCN
    rw [hoe, hol] at HOF
    rw [if_neg he] at HPR
    clear hce hoe hol
    have HNE := hid he
    clear he
    go_wp2_with fail
    go_loopw [20, 21] (fun v20 v21 wr => Idle (.slice none 0 0) w7 wr v20 v21) (fun _ _ _ => 0)
    case atStart => exact ⟨rfl, rfl, rfl⟩
    case round =>
      as_aux_lemma =>
      obtain ⟨rfl, rfl, rfl⟩ := hrel
      go_wp2_with fail
      go_loopw [19, 24] (fun v19 v24 wr => Idle (.string ⟨#[]⟩) w7 wr v19 v24) (fun _ _ _ => 0)
      case atStart => exact ⟨rfl, rfl, rfl⟩
      case round =>
        as_aux_lemma =>
        obtain ⟨rfl, rfl, rfl⟩ := hrel
        go_upto_region 30 with fail
        go_cut [118] (fun v wx => v = .bool false ∧ w7 = wx)
        case first =>
          as_aux_lemma =>
          rcases (show N = 0 ∨ 0 < N by omega) with hN0 | hN0
          · subst hN0
            go_wp2_with fail
            go_meet
            exact ⟨by first | rfl | trivial, by first | rfl | trivial⟩
          · go_wp2_with fail
            go_meet
            exact ⟨by first | rfl | trivial, by first | rfl | trivial⟩
        obtain ⟨rfl, rfl⟩ := hcut
        go_wp2_with fail
        refine (HPR.out w7 HB7.out).mono ?_
        rintro e w8 ⟨rfl, hb8⟩
        have HB8 := hid (HB7.out.trans (hb8.mono HB7.out.size))
        clear hb8
        unfold txt
        go_wp2_with (go_at_call 15; refine (HERR.out E2 w8 HB8.out).mono ?_; rintro e w9 ⟨rfl, hb5⟩; have HB9 := hid (HB8.out.trans (hb5.mono HB8.out.size)); clear hb5)
        refine (HCN.out w9 HB9.out).mono ?_
        rintro e wa ⟨Bc, kc, dc, rfl, hsc, hlc, hdc, hbc⟩
        obtain rfl : kc = 0 := by rw [← hlc]; rfl
        have HBA := hid (HB9.out.trans (hbc.mono HB9.out.size))
        have HSC := hid hsc
        clear hsc hlc hbc
        go_wp2_with (first
          | (go_at_call 15; refine (HERR.out E2 wa HBA.out).mono ?_; rintro e wb ⟨rfl, hb5⟩; have HBB := hid (HBA.out.trans (hb5.mono HBA.out.size)); have HIN := hid (ints_any Bc none 0 0 dc 0 [] [] wb (HSC.out.new hb5) (Sl.nil _ _ _) (by omega) (by omega) (by omega) (by omega)); clear hb5)
          | (go_at_call 21; refine HIN.out.mono ?_; rw [eqB_self]; rintro e wc2 ⟨rfl, nqi, hwi⟩; have HBC : Hid (Below w1.heap.size w1 wc2) := hid (by rw [hwi]; exact belowQE HBB.out nqi); clear hwi))
        go_loopw [12, 30] (fun v12 v30 wr => Idle (.slice none 0 0) wc2 wr v12 v30) (fun _ _ _ => 0)
        case atStart => exact ⟨rfl, rfl, rfl⟩
        case round =>
          as_aux_lemma =>
          obtain ⟨rfl, rfl, rfl⟩ := hrel
          go_upto_region 42 with fail
          go_cut [173] (fun v wx => v = .bool false ∧ wc2 = wx)
          case first =>
            as_aux_lemma =>
            rcases (show N = 0 ∨ 0 < N by omega) with hN0 | hN0
            · subst hN0
              go_wp2_with fail
              go_meet
              exact ⟨by first | rfl | trivial, by first | rfl | trivial⟩
            · go_wp2_with fail
              go_meet
              exact ⟨by first | rfl | trivial, by first | rfl | trivial⟩
          obtain ⟨rfl, rfl⟩ := hcut
          go_wp2_with fail
          refine (HOF.out wc2 HBC.out).mono ?_
          rintro e wd ⟨Ao, ko, co, rfl, hso, hlo, hco, hbo⟩
          obtain rfl : ko = 0 := by rw [← hlo]; rfl
          have HBD := hid (HBC.out.trans (hbo.mono HBC.out.size))
          have HSO := hid hso
          clear hso hlo hbo
          go_wp2_with (first
            | (go_at_call 15; refine (HERR.out E2 wd HBD.out).mono ?_; rintro e we2 ⟨rfl, hb5⟩; have HBE := hid (HBD.out.trans (hb5.mono HBD.out.size)); have HSAME := hid (same_evs Ao none 0 co 0 [] we2 rfl (HSO.out.new hb5) (Sl.nil _ _ _) (by omega) (by omega) (by omega)); clear hb5)
            | (go_at_call 16; refine HSAME.out.mono ?_; rintro e wf ⟨rfl, nqo, hwo⟩; have HBF : Hid (Below w1.heap.size w1 wf) := hid (by rw [hwo]; exact belowQE HBE.out nqo); clear hwo))
          go_wp2_with fail
          refine (rread_un t ht wf).mono ?_
          rintro e wr1 ⟨es, E5, A8, k8, c8, hra, rfl, hs8, hl8, hc8, hbr1⟩
          have HRA := hid hra
          have HS8 := hid hs8
          have HL8 := hid hl8
          have HBR1 := hid (HBF.out.trans (hbr1.mono HBF.out.size))
          clear hra hs8 hl8 hbr1
          go_wp2_with fail
          refine (parse_un t ht wr1 (HD1.out wr1 HBR1.out)).mono ?_
          rintro e wr2 ⟨es', E5', hra, A9, k9, c9, rfl, hs9, hl9, hc9, hbr2⟩
          obtain ⟨rfl, rfl⟩ := HRA.out.one hra
          obtain rfl : k8 = k9 := HL8.out.symm.trans hl9
          have HBR2 := hid (HBR1.out.trans (hbr2.mono HBR1.out.size))
          have HS8' := hid (HS8.out.new hbr2)
          have HS9 := hid hs9
          have hk8 : k8 ≤ 140737488355328 := by
            have h := reads_few HRA.out
            rw [HL8.out] at h
            rw [← Lib.size_eq] at h
            omega
          clear hra hs9 hl9 hbr2
          go_wp2_with (first
            | (go_at_call 15; refine (HERR.out E5 wr2 HBR2.out).mono ?_; rintro e wr3 ⟨rfl, hb5⟩; have HBR3 := hid (HBR2.out.trans (hb5.mono HBR2.out.size)); have HSAME5 := hid (same_evs A9 A8 k8 c9 c8 es wr3 HL8.out (HS9.out.new hb5) (HS8'.out.new hb5) hk8 hc9 hc8); clear hb5)
            | (go_at_call 16; refine HSAME5.out.mono ?_; rintro e wr4 ⟨rfl, nq5, hw6⟩; have HBR4 : Hid (Below w1.heap.size w1 wr4) := hid (by rw [hw6]; exact belowQE HBR3.out nq5); clear hw6))
          exact traceTells_ret rfl rfl (HB1.out.trans (HBR4.out.mono HB1.out.size))
end Go.Proofs.YthafahnlfpkkbaaGreatDoor
