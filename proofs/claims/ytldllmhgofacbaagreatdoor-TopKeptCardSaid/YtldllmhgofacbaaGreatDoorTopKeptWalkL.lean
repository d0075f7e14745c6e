/- The walk of frametop.TopKept: it returns true at every input. Conditions: the tables and errors that the row lists. -/
import Derived.Test.YtldllmhgofacbaaGreatDoorTopKeptMemL
import Derived.Test.YtldllmhgofacbaaGreatDoorSnapGUL
import Derived.Test.YtldllmhgofacbaaGreatDoorTopOneL
import Derived.Test.YtldllmhgofacbaaGreatDoorSameUL
import Derived.BigQuiet
namespace Go.Proofs.YtldllmhgofacbaaGreatDoor
open Go.RowKit
set_option maxRecDepth 100000

theorem topKept_ret {w w' : World} {a : Act} (h : a.tmps[10]? = some (.bool true)) (hd : a.defers = []) (hb : Below w.heap.size w w') : bodyPost Tryz.prog Tryz.f11 (fun e w' => e = .returned (.bool true) ∧ Below w.heap.size w w') .ret a w' :=
  bodyPost_ret (v := .bool true) (by simp [results, Tryz.results11, go_sem, h]) hd ⟨rfl, hb⟩
set_option maxHeartbeats 40000000 in
theorem topKept_walk {w : World} (hf : Forms w) (_ : Names w) (hd : Desk w) (m : PM) (hm : PlanAt w m) (n q : Int) (sync : Bool) (r : Int) :
    Calls Tryz.prog 11 #[.agg #[.slice m.A m.ros.length m.c, .int .i64 m.ticks, .slice m.sA m.spans.length m.sc, .slice m.wA m.wires.length m.wc], .int .i64 n, .int .i64 q, .bool sync, .int .i64 r] w fun e w' => e = .returned (.bool true) ∧ Below w.heap.size w w' := by
  obtain ⟨w1, hw1⟩ : ∃ w1, w1 = w.alloc (.cells #[.slice m.A m.ros.length m.c, .int .i64 m.ticks, .slice m.sA m.spans.length m.sc, .slice m.wA m.wires.length m.wc] 26) := ⟨_, rfl⟩
  have hb1 : Below w.heap.size w w1 := by rw [hw1]; exact (Below.refl _ _).alloc (Nat.le_refl _) _
  have hbox : w1.heap[w.heap.size]? = some (.cells #[.slice m.A m.ros.length m.c, .int .i64 m.ticks, .slice m.sA m.spans.length m.sc, .slice m.wA m.wires.length m.wc] 26 (0, 0)) := by rw [hw1]; exact heap_alloc_new w _
  have HD1 : Hid (∀ w', Below w1.heap.size w1 w' → Desk w') := hid fun w' hb => hd.new (hb1.trans (hb.mono hb1.size))
  have HF1 : Hid (∀ w', Below w1.heap.size w1 w' → Forms w') := hid fun w' hb => hf.new (hb1.trans (hb.mono hb1.size))
  have HM1 : Hid (∀ w', Below w1.heap.size w1 w' → PlanAt w' m) := hid fun w' hb => hm.new (hb1.trans (hb.mono hb1.size))
  have HLB : Hid (planChk m.pl ≠ 0 → ∀ w', Below w1.heap.size w1 w' → Calls Tryz.prog 44 #[.agg #[.slice m.A m.ros.length m.c, .int .i64 m.ticks, .slice m.sA m.spans.length m.sc, .slice m.wA m.wires.length m.wc]] w' fun e w'' => e = .returned (.tuple #[.pointer none, errV (planChk m.pl)]) ∧ Below w'.heap.size w' w'') := hid fun he w' hb => lgnew_bad w' m (HF1.out w' hb) (HM1.out w' hb) he
  have HLG : Hid (planChk m.pl = 0 → ∀ w', Below w1.heap.size w1 w' → Calls Tryz.prog 44 #[.agg #[.slice m.A m.ros.length m.c, .int .i64 m.ticks, .slice m.sA m.spans.length m.sc, .slice m.wA m.wires.length m.wc]] w' (LgMade w' m)) := hid fun he w' hb => lgnew_any w' m (HF1.out w' hb) (HM1.out w' hb) he
  have HNEW : Hid (planChk m.pl = 0 → ∀ w', Below w1.heap.size w1 w' → Calls Tryz.prog 20 #[.agg #[.slice m.A m.ros.length m.c, .int .i64 m.ticks, .slice m.sA m.spans.length m.sc, .slice m.wA m.wires.length m.wc]] w' (KNew w' m.pl)) := hid fun he w' hb => new_run w' m (HF1.out w' hb) (HM1.out w' hb) he
  have HSV : Hid (planChk m.pl = 0 → ∀ w' kb M k (B : Int), B ≤ 10000000 → KOk m.pl k B → Below w1.heap.size w1 w' → KAt 145 215 147 w' kb M k → Calls Tryz.prog 21 #[.pointer (some ⟨kb, 0, none⟩), .agg #[.slice m.A m.ros.length m.c, .int .i64 m.ticks, .slice m.sA m.spans.length m.sc, .slice m.wA m.wires.length m.wc]] w' (SavedK k w')) := hid fun he w' kb M k B hB hk hb hka =>
    ssave_any (HF1.out w' hb) (HD1.out w' hb).pows hka hk (snap_ok (planChk_ok he) hk (by omega)) (HM1.out w' hb) rfl he
  have HLO : Hid (planChk m.pl = 0 → ∀ w' (T : ByteArray) (i : Nat), i ≤ 1000 → T.data.toList = snapText (runK m.pl i) → Below w1.heap.size w1 w' → Calls Tryz.prog 22 #[.agg #[.slice m.A m.ros.length m.c, .int .i64 m.ticks, .slice m.sA m.spans.length m.sc, .slice m.wA m.wires.length m.wc], .string T] w' (SLoadOwn w' m.pl (runK m.pl i))) := hid fun he w' T i hi hT hb =>
    sload_own T hT w' m (HD1.out w' hb) (HF1.out w' hb) (HM1.out w' hb) he (runK_ok (planChk_ok he) i) (by omega) (sampled_run _ i) (by
      have h := snap_le2 (snap_ok (planChk_ok he) (runK_ok (planChk_ok he) i) (by omega))
      rw [← hT] at h
      rw [Lib.size_eq]; omega)
  have HSR : Hid (planChk m.pl = 0 → ∀ w' (i R : Nat), i ≤ 2000 → R < m.ros.length → Below w1.heap.size w1 w' → Calls Tryz.prog 59 #[.agg #[.slice m.A m.ros.length m.c, .int .i64 m.ticks, .slice m.sA m.spans.length m.sc, .slice m.wA m.wires.length m.wc], .int .i64 i, .int .i64 R] w' (RunLast w' i (stAtT m.pl R i))) := hid fun he w' i R hi hR hb =>
    (sight_run w' m i R (HF1.out w' hb) (HM1.out w' hb) he hi hR).mono fun e w'' h => h.last
  have hml : m.pl.code.length = m.ros.length := by simp [PM.pl]
  obtain ⟨nn, hnn⟩ : ∃ nn, m.ros.length = nn := ⟨_, rfl⟩
  obtain ⟨ns, hns⟩ : ∃ ns, m.spans.length = ns := ⟨_, rfl⟩
  obtain ⟨nw, hnw⟩ : ∃ nw, m.wires.length = nw := ⟨_, rfl⟩
  rw [hnn] at hml
  rw [hnn, hns, hnw] at hw1 hbox HLB HLG HNEW HSV HLO HSR ⊢
  have HML := hid hml
  have HB1 := hid hb1
  have HBX : Hid (∀ w', Below w1.heap.size w1 w' → w'.cell? ⟨w.heap.size, 0, none⟩ = some (.slice m.A nn m.c) ∧ w'.cell? ⟨w.heap.size, 1, none⟩ = some (.int .i64 m.ticks) ∧ w'.cell? ⟨w.heap.size, 2, none⟩ = some (.slice m.sA ns m.sc) ∧ w'.cell? ⟨w.heap.size, 3, none⟩ = some (.slice m.wA nw m.wc) ∧ w.heap.size < w'.heap.size) := hid fun w' hb => by
    have h := (hb.block _ (blk_lt hbox)).trans hbox
    have x0 := blk_cell h 0
    have x1 := blk_cell h 1
    have x2 := blk_cell h 2
    have x3 := blk_cell h 3
    simp at x0 x1 x2 x3
    exact ⟨x0, x1, x2, x3, blk_lt h⟩
  have HEND : Hid (∀ w', Below w1.heap.size w1 w' → Below w.heap.size w w') := hid fun w' hb => hb1.trans (hb.mono hb1.size)
  have HTOP := hid (top_one (HF1.out w1 (Below.refl _ _)))
  clear hf hd hm hb1 hbox hnn hns hnw hml
  go_enter Tryz.func11, Tryz.ntmps11
  go_upto_region 4 with (go_at_call 56; rw [← hw1]; refine HTOP.out.mono ?_; rintro e w2 ⟨rfl, hb2⟩; have HB2 := hid hb2; clear hb2)
  clear hw1
  obtain ⟨x0, x1, x2, x3, hlx⟩ := HBX.out w2 HB2.out
  by_cases he : planChk m.pl = 0
  rotate_left
  · have HLB1 := HLB.out he
    rw [errV_pos he] at HLB1
    have HLB2 := hid HLB1
    clear HLB1
    go_wp2_with (go_at_call 44; refine (HLB2.out w2 HB2.out).mono ?_; rintro e w3 ⟨rfl, hb3⟩; have HB3 := hid (HB2.out.trans (hb3.mono HB2.out.size)); clear hb3)
    exact topKept_ret rfl rfl (HEND.out _ HB3.out)
  have hp := planChk_ok he
  have HP := hid hp
  have hn5 : nn ≤ 5 := by have := hp.most5; rw [HML.out] at this; exact this
  have HE := hid he
  clear hp
  go_upto_region 5 with (go_at_call 44; refine (HLG.out he w2 HB2.out).mono ?_; rintro e w3 ⟨lb, m', hpl, rfl, hlg⟩)
  have HLg := hid hlg
  have HPL := hid hpl
  have HB3 := hid (HB2.out.trans (hlg.below.mono HB2.out.size))
  clear hlg hpl x0 x1 x2 x3 hlx
  obtain ⟨x0, x1, x2, x3, hlx⟩ := HBX.out w3 HB3.out
  rcases (show (n < 0 ∨ (0 ≤ n ∧ 60 < n) ∨ ((0 ≤ n ∧ n ≤ 60) ∧ q < 0) ∨ ((0 ≤ n ∧ n ≤ 60) ∧ 0 ≤ q ∧ 60 < q) ∨ ((0 ≤ n ∧ n ≤ 60) ∧ (0 ≤ q ∧ q ≤ 60) ∧ r < 0) ∨ ((0 ≤ n ∧ n ≤ 60) ∧ (0 ≤ q ∧ q ≤ 60) ∧ 0 ≤ r ∧ (nn : Int) ≤ r)) ∨ ((0 ≤ n ∧ n ≤ 60) ∧ (0 ≤ q ∧ q ≤ 60) ∧ 0 ≤ r ∧ r < (nn : Int)) by omega) with hbad | ⟨⟨hn0, hn1⟩, ⟨hq0, hq1⟩, hr0, hr1⟩
  · rcases hbad with h | ⟨h, h'⟩ | ⟨⟨h, h'⟩, h''⟩ | ⟨⟨h, h'⟩, h'', h3⟩ | ⟨⟨h, h'⟩, ⟨h'', h3⟩, h4⟩ | ⟨⟨h, h'⟩, ⟨h'', h3⟩, h4, h5⟩
    all_goals
      go_wp2_with fail
      exact topKept_ret rfl rfl (HEND.out _ HB3.out)
  obtain ⟨i, rfl⟩ : ∃ i : Nat, n = i := ⟨n.toNat, by omega⟩
  obtain ⟨j, rfl⟩ : ∃ j : Nat, q = j := ⟨q.toNat, by omega⟩
  obtain ⟨R, rfl⟩ : ∃ R : Nat, r = R := ⟨r.toNat, by omega⟩
  have hi60 : i ≤ 60 := by omega
  have hj60 : j ≤ 60 := by omega
  have HI := hid hi60
  have HJ := hid hj60
  have HGO1 : Hid (∀ w' ts, LgAt w2 w' lb m' Lg.new ts → Calls Tryz.prog 45 #[.pointer (some ⟨lb, 0, none⟩), .int .i64 i] w' fun e w'' => e = .returned .nilIface ∧ LgAt w2 w'' lb m' (keptL i) ts) := hid fun w' ts h => by
    have h1 := lggo_any (m := m') (by rw [HPL.out]; exact HP.out) (Lg.new_ok _) (by decide) (HD1.out w2 HB2.out).pows (pows_lt (HD1.out w2 HB2.out).pows) (i : Int) h
    rw [HPL.out, kept_first HP.out HI.out] at h1
    dsimp only at h1
    rw [errV_zero] at h1
    exact h1
  have HGO2 : Hid (∀ (L : Lg), (L = keptL i ∨ L = keptS i) → ∀ w' ts, LgAt w2 w' lb m' L ts → Calls Tryz.prog 45 #[.pointer (some ⟨lb, 0, none⟩), .int .i64 j] w' fun e w'' => e = .returned .nilIface ∧ LgAt w2 w'' lb m' (moreL L j) ts) := hid fun L hL w' ts h => by
    have hok : LgOk m.pl L := by rcases hL with rfl | rfl; exact kept_okL HP.out HI.out; exact kept_okS HP.out HI.out
    have hfew : L.done.length ≤ 1000 := by rcases hL with rfl | rfl <;> exact Nat.le_of_ble_eq_true rfl
    have h1 := lggo_any (m := m') (by rw [HPL.out]; exact HP.out) (by rw [HPL.out]; exact hok) hfew (HD1.out w2 HB2.out).pows (pows_lt (HD1.out w2 HB2.out).pows) (j : Int) h
    rw [HPL.out, kept_next HP.out HI.out HJ.out hL] at h1
    dsimp only at h1
    rw [errV_zero] at h1
    exact h1
  have HSY : Hid (∀ w' ts, LgAt w2 w' lb m' (keptL i) ts → Calls Tryz.prog 46 #[.pointer (some ⟨lb, 0, none⟩)] w' fun e w'' => e = .returned .nilIface ∧ LgAt w2 w'' lb m' (keptS i) ts) := hid fun w' ts h => by
    have h1 := lgsync_any (m := m') (by rw [HPL.out]; exact kept_okL HP.out HI.out) h
    rw [kept_sync] at h1
    dsimp only at h1
    rw [errV_zero] at h1
    exact h1
  have HCR : Hid (∀ (L L' : Lg), (L = keptL i ∨ L = keptS i) → (moreL L j).crash 0 = L' → ∀ w' kb M k, LgAt w2 w' lb m' (moreL L j) [kTh kb m.pl M k] → Calls Tryz.prog 47 #[.pointer (some ⟨lb, 0, none⟩), .int .i64 0] w' fun e w'' => e = .returned (.tuple #[]) ∧ LgAt w2 w'' lb m' L' [kTh kb m.pl M k]) := hid fun L L' hL hc w' kb M k h => by
    have hfew : (moreL L j).done.length ≤ 1000 := by rcases hL with rfl | rfl <;> exact Nat.le_of_ble_eq_true rfl
    have h1 := lgcrash_any (m := m') (by rw [HPL.out]; exact HE.out) (by rw [HPL.out]; exact kept_okM HP.out HI.out HJ.out hL) hfew (HF1.out w2 HB2.out) (HD1.out w2 HB2.out) (fun t ht => by rw [List.mem_singleton] at ht; subst ht; exact celled_k _ _ _ _ _ _ _) 0 h
    rw [hc] at h1
    exact h1
  have hti : (runK m.pl i).time = i := runK_time m.pl HP.out i
  have HTI := hid hti
  clear hti
  go_upto_region 8 with (go_at_call 20; refine (HNEW.out he w3 HB3.out).mono ?_; rintro e w4 ⟨kb, M, rfl, hk⟩)
  have HL4 : Hid (LgAt w2 w4 lb m' Lg.new [kTh kb m.pl M (kNew m.pl)]) := hid (HLg.out.add hk)
  clear hk HNEW x0 x1 x2 x3 hlx
  go_upto_region 10 with (go_at_call 45; refine (HGO1.out w4 _ HL4.out).mono ?_; rintro e w5 ⟨rfl, hl5⟩; have HL5 := hid hl5; clear hl5 HL4)
  go_wp2_with fail
  go_loopw [16] (fun v16 wr => ∃ (t : Nat) (M : KM), t ≤ i ∧ v16 = .int .i64 t ∧ LgAt w2 wr lb m' (keptL i) [kTh kb m.pl M (runK m.pl t)]) (fun v16 _ => i - (intOf v16).toNat)
  case atStart => exact ⟨0, M, by omega, rfl, HL5.out⟩
  case round =>
    obtain ⟨wo, rfl⟩ : ∃ wo : World, wo = wr := ⟨_, rfl⟩
    obtain ⟨t, M, hti, rfl, hlt⟩ := hrel
    have HLT := hid hlt
    clear hlt HL5
    by_cases hlt : t < i
    · go_wp2_with (go_at_call 23; refine (lg_tick HLT.out HP.out (runK_ok HP.out t) (by omega)).mono ?_; rintro e w6 ⟨M', rfl, hl6⟩; have HL6 := hid hl6; clear hl6)
      go_roundw
      case rel => exact ⟨t + 1, M', by omega, by go_num, HL6.out⟩
      case measure => simp [intOf]; omega
    · obtain rfl : t = i := by omega
      have HSV1 : Hid (∀ w' M, LgAt w2 w' lb m' (keptS t) [kTh kb m.pl M (runK m.pl t)] ∨ LgAt w2 w' lb m' Lg.new [kTh kb m.pl M (runK m.pl t)] → Calls Tryz.prog 21 #[.pointer (some ⟨kb, 0, none⟩), .agg #[.slice m.A nn m.c, .int .i64 m.ticks, .slice m.sA ns m.sc, .slice m.wA nw m.wc]] w' (SavedK (runK m.pl t) w')) := hid fun w' M h => by
        have hb : Below w2.heap.size w2 w' := by rcases h with h | h <;> exact h.below
        have hk : KAt 145 215 147 w' kb M (runK m.pl t) := by rcases h with h | h <;> exact h.kat
        exact HSV.out HE.out w' kb M _ t (by omega) (runK_ok HP.out t) (HB2.out.trans (hb.mono HB2.out.size)) hk
      have HBW : Hid (∀ w', Below w2.heap.size w2 w' → Below w1.heap.size w1 w') := hid fun w' hb => HB2.out.trans (hb.mono HB2.out.size)
      cases sync with
      | false =>
        as_aux_lemma =>
        go_upto_region 16 with (go_at_call 45; refine (HGO2.out (keptL t) (.inl rfl) wo _ HLT.out).mono ?_; rintro e w6 ⟨rfl, hl6⟩; have HL6 := hid hl6; clear hl6)
        go_upto_region 17 with (go_at_call 47; refine (HCR.out (keptL t) Lg.new (.inl rfl) (lost_crash t j) w6 kb M _ HL6.out).mono ?_; rintro e w7 ⟨rfl, hl7⟩; have HL7 := hid hl7; clear hl7 HL6)
        obtain ⟨x0, x1, x2, x3, hlx⟩ := HBX.out w7 (HBW.out _ HL7.out.below)
        go_upto_region 18 with (go_at_call 21; refine (HSV1.out w7 M (.inr HL7.out)).mono ?_; rintro e w8 ⟨T, rfl, hT, hb8⟩)
        have HT := hid hT
        have HL8 := hid (HL7.out.new hb8)
        clear hT hb8 HL7 x0 x1 x2 x3 hlx
        obtain ⟨x0, x1, x2, x3, hlx⟩ := HBX.out w8 (HBW.out _ HL8.out.below)
        go_upto_region 19 with (go_at_call 22; refine (HLO.out HE.out w8 T t (by omega) HT.out (HBW.out _ HL8.out.below)).mono ?_; rintro e w9 ⟨yb, N, rfl, hy⟩)
        have HL9 := hid (HL8.out.new hy.below)
        clear hy HL8 x0 x1 x2 x3 hlx
        have HTM : Hid (Calls Tryz.prog 48 #[.pointer (some ⟨lb, 0, none⟩)] w9 fun e w' => e = .returned (.int .i64 0) ∧ w9 = w') := hid (by
          have h1 := lgtime_any HL9.out
          have h2 : (runRecs m'.pl Lg.new.done).time = 0 := by rw [HPL.out]; exact runK_time m.pl HP.out 0
          rw [h2] at h1
          exact h1)
        go_wp2_with (go_at_call 48; refine HTM.out.mono ?_; rintro e w10 ⟨rfl, rfl⟩)
        exact topKept_ret rfl rfl (HEND.out _ (HBW.out _ HL9.out.below))
      | true =>
        as_aux_lemma =>
        go_upto_region 16 with (first
          | (go_at_call 45; refine (HGO2.out (keptS t) (.inr rfl) _ _ HL6.out).mono ?_; rintro e w7 ⟨rfl, hl7⟩; have HL7 := hid hl7; clear hl7)
          | (go_at_call 46; refine (HSY.out wo _ HLT.out).mono ?_; rintro e w6 ⟨rfl, hl6⟩; have HL6 := hid hl6; clear hl6))
        go_upto_region 17 with (go_at_call 47; refine (HCR.out (keptS t) (keptS t) (.inr rfl) (kept_crash t j) w7 kb M _ HL7.out).mono ?_; rintro e w8 ⟨rfl, hl8⟩; have HL8 := hid hl8; clear hl8 HL6 HL7)
        obtain ⟨x0, x1, x2, x3, hlx⟩ := HBX.out w8 (HBW.out _ HL8.out.below)
        go_upto_region 18 with (go_at_call 21; refine (HSV1.out w8 M (.inl HL8.out)).mono ?_; rintro e w9 ⟨T, rfl, hT, hb9⟩)
        have HT := hid hT
        have HL9 := hid (HL8.out.new hb9)
        clear hT hb9 HL8 x0 x1 x2 x3 hlx
        obtain ⟨x0, x1, x2, x3, hlx⟩ := HBX.out w9 (HBW.out _ HL9.out.below)
        go_upto_region 19 with (go_at_call 22; refine (HLO.out HE.out w9 T t (by omega) HT.out (HBW.out _ HL9.out.below)).mono ?_; rintro e wl ⟨yb, N, rfl, hy⟩)
        have HLL : Hid (LgAt w2 wl lb m' (keptS t) [kTh yb m.pl N (runK m.pl t)]) := hid (HL9.out.drop.add hy)
        clear hy HL9 HLT x0 x1 x2 x3 hlx
        obtain ⟨s, hs⟩ : ∃ s, (runK m.pl t).rooms[R]? = some s := ⟨_, List.getElem?_eq_getElem (by rw [(runK_ok HP.out t).rooms, HML.out]; omega)⟩
        have HSA : Hid (∀ w' ts, LgAt w2 w' lb m' (keptS t) ts → Calls Tryz.prog 57 #[.pointer (some ⟨lb, 0, none⟩), .int .i64 R] w' fun e w'' => e = .returned (.tuple #[.agg (stV s), .nilIface]) ∧ Below w'.heap.size w' w'') := hid fun w' ts h =>
          lgstate_any (by rw [HPL.out]; exact HP.out) (by rw [HPL.out]; exact kept_okS HP.out HI.out) (by rw [HPL.out, show (keptS t).done = [.go t] from rfl, kept_one]; exact hs) h
        have HSX : Hid (∀ w' ts, LgAt w2 w' lb m' (keptS t) (kTh yb m.pl N (runK m.pl t) :: ts) → Calls Tryz.prog 58 #[.pointer (some ⟨yb, 0, none⟩), .int .i64 R] w' fun e w'' => e = .returned (.tuple #[.agg (stV s), .nilIface]) ∧ Below w'.heap.size w' w'') := hid fun w' ts h =>
          lg_state h HP.out (runK_ok HP.out t) hs
        have hne := fun w => state_neq s s w
        simp only [stEq_refl] at hne
        obtain ⟨pc, c0, c1, c2, c3, c4, c5, f⟩ := s
        unfold stV at HSA HSX
        simp only [] at HSA HSX hne
        clear hs
        go_upto_region 24 with (go_at_call 57; refine (HSA.out wl _ HLL.out).mono ?_; rintro e wm ⟨rfl, hbm⟩; have HLM := hid (HLL.out.new hbm); clear hbm)
        obtain ⟨ab, hab⟩ : ∃ ab, ab = wm.heap.size := ⟨_, rfl⟩
        obtain ⟨wa, hwa⟩ : ∃ wa, wa = wm.alloc (.cells #[.int .i64 pc, .int .i64 c0, .int .i64 c1, .int .i64 c2, .int .i64 c3, .int .i64 c4, .int .i64 c5, .bool f] 106) := ⟨_, rfl⟩
        have HLA : Hid (LgAt w2 wa lb m' (keptS t) [kTh yb m.pl N (runK m.pl t), blkT ab (.cells #[.int .i64 pc, .int .i64 c0, .int .i64 c1, .int .i64 c2, .int .i64 c3, .int .i64 c4, .int .i64 c5, .bool f] 106 (0, 0))]) := hid (by rw [hwa, hab]; exact HLM.out.boxed _ _)
        rw [← hwa, ← hab]
        clear hwa hab HLM HLL
        go_upto_region 25 with (go_at_call 58; refine (HSX.out wa _ HLA.out).mono ?_; rintro e wn ⟨rfl, hbn⟩; have HLN := hid (HLA.out.new hbn); clear hbn)
        obtain ⟨bb, hbb⟩ : ∃ bb, bb = wn.heap.size := ⟨_, rfl⟩
        obtain ⟨wb, hwb⟩ : ∃ wb, wb = wn.alloc (.cells #[.int .i64 pc, .int .i64 c0, .int .i64 c1, .int .i64 c2, .int .i64 c3, .int .i64 c4, .int .i64 c5, .bool f] 106) := ⟨_, rfl⟩
        have HLB : Hid (LgAt w2 wb lb m' (keptS t) [kTh yb m.pl N (runK m.pl t), blkT ab (.cells #[.int .i64 pc, .int .i64 c0, .int .i64 c1, .int .i64 c2, .int .i64 c3, .int .i64 c4, .int .i64 c5, .bool f] 106 (0, 0)), blkT bb (.cells #[.int .i64 pc, .int .i64 c0, .int .i64 c1, .int .i64 c2, .int .i64 c3, .int .i64 c4, .int .i64 c5, .bool f] 106 (0, 0))]) := hid (by rw [hwb, hbb]; exact HLN.out.boxed _ _)
        rw [← hwb, ← hbb]
        clear hwb hbb HLN HLA HSA HSX
        have ha := HLB.out.blk (i := 1) rfl
        have hb := HLB.out.blk (i := 2) rfl
        have hal := blk_lt ha
        have hbl := blk_lt hb
        have y0 := blk_cell ha 0
        have y1 := blk_cell ha 1
        have y2 := blk_cell ha 2
        have y3 := blk_cell ha 3
        have y4 := blk_cell ha 4
        have y5 := blk_cell ha 5
        have y6 := blk_cell ha 6
        have y7 := blk_cell ha 7
        have z0 := blk_cell hb 0
        have z1 := blk_cell hb 1
        have z2 := blk_cell hb 2
        have z3 := blk_cell hb 3
        have z4 := blk_cell hb 4
        have z5 := blk_cell hb 5
        have z6 := blk_cell hb 6
        have z7 := blk_cell hb 7
        simp at y0 y1 y2 y3 y4 y5 y6 y7 z0 z1 z2 z3 z4 z5 z6 z7
        have hgd := state_guard
        have HTJ : Hid (Calls Tryz.prog 48 #[.pointer (some ⟨lb, 0, none⟩)] wb fun e w' => e = .returned (.int .i64 t) ∧ wb = w') := hid (by
          have h1 := lgtime_any HLB.out
          have h2 : (runRecs m'.pl (keptS t).done).time = t := by rw [HPL.out, show (keptS t).done = [.go t] from rfl, kept_one, HTI.out]
          rw [h2] at h1
          exact h1)
        have HTX : Hid (Calls Tryz.prog 24 #[.pointer (some ⟨yb, 0, none⟩)] wb fun e w' => e = .returned (.int .i64 t) ∧ wb = w') := hid (by
          have h1 := lg_time HLB.out
          rw [HTI.out] at h1
          exact h1)
        clear ha hb
        go_upto_region 27 with (first
          | (go_at_call 24; refine HTX.out.mono ?_; rintro e wy ⟨rfl, rfl⟩)
          | (go_at_call 48; refine HTJ.out.mono ?_; rintro e wy ⟨rfl, rfl⟩))
        clear y0 y1 y2 y3 y4 y5 y6 y7 z0 z1 z2 z3 z4 z5 z6 z7 hal hbl hne HTJ HTX
        go_upto_region 29 with (go_at_call 45; refine (HGO2.out (keptS t) (.inr rfl) wb _ HLB.out).mono ?_; rintro e wc ⟨rfl, hlc⟩; have HLC := hid hlc; clear hlc HLB)
        go_wp2_with fail
        go_loopw [23] (fun v23 wr => ∃ (c : Nat) (M : KM), c ≤ j ∧ v23 = .int .i64 c ∧ LgAt w2 wr lb m' (moreL (keptS t) j) [kTh yb m.pl M (runK m.pl (t + c)), blkT ab (.cells #[.int .i64 pc, .int .i64 c0, .int .i64 c1, .int .i64 c2, .int .i64 c3, .int .i64 c4, .int .i64 c5, .bool f] 106 (0, 0)), blkT bb (.cells #[.int .i64 pc, .int .i64 c0, .int .i64 c1, .int .i64 c2, .int .i64 c3, .int .i64 c4, .int .i64 c5, .bool f] 106 (0, 0))]) (fun v23 _ => j - (intOf v23).toNat)
        case atStart => exact ⟨0, N, by omega, rfl, HLC.out⟩
        case round =>
          obtain ⟨wp, rfl⟩ : ∃ wp : World, wp = wr := ⟨_, rfl⟩
          obtain ⟨c, N2, hcj, rfl, hlp⟩ := hrel
          have HLP := hid hlp
          clear hlp HLC
          by_cases hcl : c < j
          · go_wp2_with (go_at_call 23; refine (lg_tick HLP.out HP.out (runK_ok HP.out (t + c)) (by omega)).mono ?_; rintro e w6 ⟨M', rfl, hl6⟩; have HL6 := hid hl6; clear hl6)
            go_roundw
            case rel => exact ⟨c + 1, M', by omega, by go_num, HL6.out⟩
            case measure => simp [intOf]; omega
          · obtain rfl : c = j := by omega
            obtain ⟨Q, hQ⟩ : ∃ Q, Q = t + c := ⟨_, rfl⟩
            have hQ120 : Q ≤ 120 := by omega
            have hQi : (t : Int) + (c : Int) = (Q : Int) := by omega
            have hrd : runRecs m'.pl (moreL (keptS t) c).done = runK m.pl Q := by rw [HPL.out, show (moreL (keptS t) c).done = [.go t, .go c] from rfl, kept_two, hQ]
            have HRD := hid hrd
            rw [← hQ] at HLP
            obtain ⟨s2, hs2⟩ : ∃ s2, (runK m.pl Q).rooms[R]? = some s2 := ⟨_, List.getElem?_eq_getElem (by rw [(runK_ok HP.out Q).rooms, HML.out]; omega)⟩
            have hst : stAtT m.pl R Q = s2 := by unfold stAtT; rw [List.getD_eq_getElem?_getD, hs2]; rfl
            have HSR1 : Hid (∀ w', Below w1.heap.size w1 w' → Calls Tryz.prog 59 #[.agg #[.slice m.A nn m.c, .int .i64 m.ticks, .slice m.sA ns m.sc, .slice m.wA nw m.wc], .int .i64 Q, .int .i64 R] w' (RunLast w' Q s2)) := hid fun w' hb => by
              have h1 := HSR.out HE.out w' Q R (by omega) (by omega) hb
              rw [hst] at h1
              exact h1
            have HSA : Hid (∀ w' ts, LgAt w2 w' lb m' (moreL (keptS t) c) ts → Calls Tryz.prog 57 #[.pointer (some ⟨lb, 0, none⟩), .int .i64 R] w' fun e w'' => e = .returned (.tuple #[.agg (stV s2), .nilIface]) ∧ Below w'.heap.size w' w'') := hid fun w' ts h =>
              lgstate_any (by rw [HPL.out]; exact HP.out) (by rw [HPL.out]; exact kept_okM HP.out HI.out HJ.out (.inr rfl)) (by rw [HRD.out]; exact hs2) h
            have HSX : Hid (∀ w' ts, LgAt w2 w' lb m' (moreL (keptS t) c) (kTh yb m.pl N2 (runK m.pl Q) :: ts) → Calls Tryz.prog 58 #[.pointer (some ⟨yb, 0, none⟩), .int .i64 R] w' fun e w'' => e = .returned (.tuple #[.agg (stV s2), .nilIface]) ∧ Below w'.heap.size w' w'') := hid fun w' ts h =>
              lg_state h HP.out (runK_ok HP.out Q) hs2
            have heq := fun w => state_eql s2 s2 w
            simp only [stEq_refl] at heq
            obtain ⟨pd, d0, d1, d2, d3, d4, d5, g⟩ := s2
            unfold stV at HSA HSX
            simp only [] at HSA HSX heq
            obtain ⟨x0, x1, x2, x3, hlx⟩ := HBX.out wp (HBW.out _ HLP.out.below)
            clear hst hs2 hrd hQ
            go_upto_region 34 with (go_at_call 59; refine (HSR1.out wp (HBW.out _ HLP.out.below)).mono ?_; rintro e wq ⟨rb, ro, rc, rfl, hri, hrl, hrf, hrn, hrc, hbq⟩)
            have HLQ := hid (HLP.out.read hbq hri hrl hrf)
            unfold maxLen at hrc
            clear hri hrl hrf hbq x0 x1 x2 x3 hlx HLP
            go_wp2_with fail
            refine (HSA.out wq _ HLQ.out).mono ?_
            rintro e ws ⟨rfl, hbs⟩
            have HLS := hid (HLQ.out.new hbs)
            have HTH := hid (boxs_there (HLS.out.blk (i := 1) rfl))
            clear hbs HLQ
            go_upto_region 35 with (
               refine wpList_store_mid rfl 106 (.tmp 21) (.tmp 179) rfl ab 0 #[.int .i64 pd, .int .i64 d0, .int .i64 d1, .int .i64 d2, .int .i64 d3, .int .i64 d4, .int .i64 d5, .bool g] rfl rfl HTH.out (by kernel_rfl) (by simp [Value.oneCell']) ?_
               obtain ⟨wt, hwt⟩ : ∃ wt, wt = ws.setCells ab 0 (#[.int .i64 pd, .int .i64 d0, .int .i64 d1, .int .i64 d2, .int .i64 d3, .int .i64 d4, .int .i64 d5, .bool g] : Array Value).toList := ⟨_, rfl⟩
               rw [← hwt]
               have HLT : Hid (LgAt w2 wt lb m' (moreL (keptS t) c) [kTh yb m.pl N2 (runK m.pl Q), blkT ab (.cells #[.int .i64 pd, .int .i64 d0, .int .i64 d1, .int .i64 d2, .int .i64 d3, .int .i64 d4, .int .i64 d5, .bool g] 106 (0, 0)), blkT bb (.cells #[.int .i64 pc, .int .i64 c0, .int .i64 c1, .int .i64 c2, .int .i64 c3, .int .i64 c4, .int .i64 c5, .bool f] 106 (0, 0)), stInT rb (ro + Q * 8) ⟨pd, d0, d1, d2, d3, d4, d5, g⟩]) := hid (by
                 rw [hwt]
                 exact HLS.out.wrote (i := 1) rfl (boxs_keep _ _ _ _ _ _ _ _ _ _) (boxs_blk (HLS.out.blk (i := 1) rfl)))
               clear hwt HLS HTH)
            go_wp2_with fail
            refine (HSX.out wt _ HLT.out).mono ?_
            rintro e wu ⟨rfl, hbu⟩
            have HLU := hid (HLT.out.new hbu)
            have HTH := hid (boxs_there (HLU.out.blk (i := 2) rfl))
            clear hbu HLT
            go_upto_region 36 with (
               refine wpList_store_mid rfl 106 (.tmp 22) (.tmp 185) rfl bb 0 #[.int .i64 pd, .int .i64 d0, .int .i64 d1, .int .i64 d2, .int .i64 d3, .int .i64 d4, .int .i64 d5, .bool g] rfl rfl HTH.out (by kernel_rfl) (by simp [Value.oneCell']) ?_
               obtain ⟨wv, hwv⟩ : ∃ wv, wv = wu.setCells bb 0 (#[.int .i64 pd, .int .i64 d0, .int .i64 d1, .int .i64 d2, .int .i64 d3, .int .i64 d4, .int .i64 d5, .bool g] : Array Value).toList := ⟨_, rfl⟩
               rw [← hwv]
               have HLV : Hid (LgAt w2 wv lb m' (moreL (keptS t) c) [kTh yb m.pl N2 (runK m.pl Q), blkT ab (.cells #[.int .i64 pd, .int .i64 d0, .int .i64 d1, .int .i64 d2, .int .i64 d3, .int .i64 d4, .int .i64 d5, .bool g] 106 (0, 0)), blkT bb (.cells #[.int .i64 pd, .int .i64 d0, .int .i64 d1, .int .i64 d2, .int .i64 d3, .int .i64 d4, .int .i64 d5, .bool g] 106 (0, 0)), stInT rb (ro + Q * 8) ⟨pd, d0, d1, d2, d3, d4, d5, g⟩]) := hid (by
                 rw [hwv]
                 exact HLU.out.wrote (i := 2) rfl (boxs_keep _ _ _ _ _ _ _ _ _ _) (boxs_blk (HLU.out.blk (i := 2) rfl)))
               clear hwv HLU HTH)
            have ha := HLV.out.blk (i := 1) rfl
            have hb := HLV.out.blk (i := 2) rfl
            obtain ⟨⟨r0, r1, r2, r3, r4, r5, r6, r7⟩, hrl⟩ := HLV.out.there (i := 3) rfl
            have hal := blk_lt ha
            have hbl := blk_lt hb
            have y0 := blk_cell ha 0
            have y1 := blk_cell ha 1
            have y2 := blk_cell ha 2
            have y3 := blk_cell ha 3
            have y4 := blk_cell ha 4
            have y5 := blk_cell ha 5
            have y6 := blk_cell ha 6
            have y7 := blk_cell ha 7
            have z0 := blk_cell hb 0
            have z1 := blk_cell hb 1
            have z2 := blk_cell hb 2
            have z3 := blk_cell hb 3
            have z4 := blk_cell hb 4
            have z5 := blk_cell hb 5
            have z6 := blk_cell hb 6
            have z7 := blk_cell hb 7
            simp at y0 y1 y2 y3 y4 y5 y6 y7 z0 z1 z2 z3 z4 z5 z6 z7
            simp only [] at r0 r1 r2 r3 r4 r5 r6 r7
            have hQ1 : (((Q + 1 : Nat) : Int) == (Q : Int) + 1) = true := by simp
            have hQl : Q < Q + 1 := by omega
            clear ha hb
            go_quiet (fail)
            go_wp2_with fail
            exact topKept_ret rfl rfl (HEND.out _ (below_drewN (HBW.out _ HLV.out.below) nq))
end Go.Proofs.YtldllmhgofacbaaGreatDoor
