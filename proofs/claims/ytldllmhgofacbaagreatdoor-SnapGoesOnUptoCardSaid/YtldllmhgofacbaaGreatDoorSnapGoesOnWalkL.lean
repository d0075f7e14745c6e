/- The walk of framelaw3.SnapGoesOn: it returns true at every input whose text is of at most 2^30 bytes. Conditions: the plan's memory, the text desk of the row. -/
import Derived.Test.YtldllmhgofacbaaGreatDoorSnapGUL
import Derived.Deep.RegionHeld3
namespace Go.Proofs.YtldllmhgofacbaaGreatDoor
open Go.RowKit
set_option maxRecDepth 100000

theorem load_text {p : Pl} {t : List UInt8} {L : List (List Nat)} (hp : PlOk p) (h : Tab (wordsOf p.code.length p.wires.length) t L) (he : loadE p L = 0) : KOk p (loadK p L) 10000000 ∧ snapText (loadK p L) = t := by
  have hl : L.length = 1 + p.code.length + p.wires.length := by rw [← wordsOf_len]; exact h.len
  have hk := loadK_ok hp hl h.small he
  have hs := tabText_k (snap_ok7 hp hk (by omega))
  rw [hk.rooms, lines_len hk, loadK_tab hl he, h.text] at hs
  exact ⟨hk, hs.symm⟩
set_option maxHeartbeats 8000000 in
theorem snapGoesOn_walk {w : World} (hf : Forms w) (_ : Names w) (hd : Desk w) (m : PM) (hm : PlanAt w m) (n mm : Int) (t : ByteArray) (ht : t.size ≤ 1073741824) :
    Calls Tryz.prog 4 #[.agg #[.slice m.A m.ros.length m.c, .int .i64 m.ticks, .slice m.sA m.spans.length m.sc, .slice m.wA m.wires.length m.wc], .int .i64 n, .int .i64 mm, .string t] w fun e w' => e = .returned (.bool true) ∧ Below w.heap.size w w' := by
  obtain ⟨w1, hw1⟩ : ∃ w1, w1 = w.alloc (.cells #[.slice m.A m.ros.length m.c, .int .i64 m.ticks, .slice m.sA m.spans.length m.sc, .slice m.wA m.wires.length m.wc] 26) := ⟨_, rfl⟩
  have hb1 : Below w.heap.size w w1 := by rw [hw1]; exact (Below.refl _ _).alloc (Nat.le_refl _) _
  have hbox : w1.heap[w.heap.size]? = some (.cells #[.slice m.A m.ros.length m.c, .int .i64 m.ticks, .slice m.sA m.spans.length m.sc, .slice m.wA m.wires.length m.wc] 26 (0, 0)) := by rw [hw1]; exact heap_alloc_new w _
  have HNG : Hid (planChk m.pl = 0 → ∀ w', Below w.heap.size w w' → Calls Tryz.prog 20 #[.agg #[.slice m.A m.ros.length m.c, .int .i64 m.ticks, .slice m.sA m.spans.length m.sc, .slice m.wA m.wires.length m.wc]] w' (KNew w' m.pl)) := hid fun he w' hb => new_run w' m (hf.new hb) (hm.new hb) he
  have HNB : Hid (planChk m.pl ≠ 0 → ∀ w', Below w.heap.size w w' → Calls Tryz.prog 20 #[.agg #[.slice m.A m.ros.length m.c, .int .i64 m.ticks, .slice m.sA m.spans.length m.sc, .slice m.wA m.wires.length m.wc]] w' fun e w'' => e = .returned (.tuple #[.pointer none, errV (planChk m.pl)]) ∧ Below w'.heap.size w' w'') := hid fun he w' hb => kern_new_bad w' m (hf.new hb) (hm.new hb) he
  have HLG : Hid (planChk m.pl = 0 → ∀ w', Below w.heap.size w w' → Calls Tryz.prog 22 #[.agg #[.slice m.A m.ros.length m.c, .int .i64 m.ticks, .slice m.sA m.spans.length m.sc, .slice m.wA m.wires.length m.wc], .string t] w' (SLoadGot w' m.pl t)) := hid fun he w' hb => sload_any t ht w' m (hd.new hb) (hf.new hb) (hm.new hb) he
  have HLB : Hid (planChk m.pl ≠ 0 → ∀ w', Below w.heap.size w w' → Calls Tryz.prog 22 #[.agg #[.slice m.A m.ros.length m.c, .int .i64 m.ticks, .slice m.sA m.spans.length m.sc, .slice m.wA m.wires.length m.wc], .string t] w' fun e w'' => e = .returned (.tuple #[.pointer none, errV (planChk m.pl)]) ∧ Below w'.heap.size w' w'') := hid fun he w' hb => sload_bad t w' m (hf.new hb) (hm.new hb) he
  have HLO : Hid (planChk m.pl = 0 → ∀ w' (T : ByteArray) (i : Nat), i ≤ 1000 → T.data.toList = snapText (runK m.pl i) → Below w.heap.size w w' → Calls Tryz.prog 22 #[.agg #[.slice m.A m.ros.length m.c, .int .i64 m.ticks, .slice m.sA m.spans.length m.sc, .slice m.wA m.wires.length m.wc], .string T] w' (SLoadOwn w' m.pl (runK m.pl i))) := hid fun he w' T i hi hT hb =>
    sload_own T hT w' m (hd.new hb) (hf.new hb) (hm.new hb) he (runK_ok (planChk_ok he) i) (by omega) (sampled_run _ i) (by
      have h := snap_le2 (snap_ok (planChk_ok he) (runK_ok (planChk_ok he) i) (by omega))
      rw [← hT] at h
      rw [Lib.size_eq]; omega)
  have HSV : Hid (planChk m.pl = 0 → ∀ w' kb M k (B : Int), B ≤ 10000000 → KOk m.pl k B → Below w.heap.size w w' → KAt 145 215 147 w' kb M k → Calls Tryz.prog 21 #[.pointer (some ⟨kb, 0, none⟩), .agg #[.slice m.A m.ros.length m.c, .int .i64 m.ticks, .slice m.sA m.spans.length m.sc, .slice m.wA m.wires.length m.wc]] w' (SavedK k w')) := hid fun he w' kb M k B hB hk hb hka =>
    ssave_any (hf.new hb) (hd.new hb).pows hka hk (snap_ok (planChk_ok he) hk (by omega)) (hm.new hb) rfl he
  obtain ⟨nn, hnn⟩ : ∃ nn, m.ros.length = nn := ⟨_, rfl⟩
  obtain ⟨ns, hns⟩ : ∃ ns, m.spans.length = ns := ⟨_, rfl⟩
  obtain ⟨nw, hnw⟩ : ∃ nw, m.wires.length = nw := ⟨_, rfl⟩
  rw [hnn, hns, hnw] at hw1 hbox HNG HNB HLG HLB HLO HSV ⊢
  have HBX : Hid (∀ w', Below w1.heap.size w1 w' → w'.cell? ⟨w.heap.size, 0, none⟩ = some (.slice m.A nn m.c) ∧ w'.cell? ⟨w.heap.size, 1, none⟩ = some (.int .i64 m.ticks) ∧ w'.cell? ⟨w.heap.size, 2, none⟩ = some (.slice m.sA ns m.sc) ∧ w'.cell? ⟨w.heap.size, 3, none⟩ = some (.slice m.wA nw m.wc) ∧ w.heap.size < w'.heap.size) := hid fun w' hb => by
    have h := (hb.block _ (blk_lt hbox)).trans hbox
    have x0 := blk_cell h 0
    have x1 := blk_cell h 1
    have x2 := blk_cell h 2
    have x3 := blk_cell h 3
    simp at x0 x1 x2 x3
    exact ⟨x0, x1, x2, x3, blk_lt h⟩
  have HB1 := hid hb1
  have HR1 := hid (rest_new (hf.new hb1) (w.heap.size + 1) (by rw [hw1]; simp))
  have HF1 := hid (hf.new hb1)
  have HD1 := hid (hd.new hb1)
  clear hf hm hd hb1 hbox hnn hns hnw ht
  go_enter Tryz.func4, Tryz.ntmps4
  go_upto_region 3 with (go_at_call 20; rw [← hw1]; refine HR1.out.mono ?_; rintro e w2 ⟨k1, M1, rfl, hk1, hp1, hx1⟩)
  have hsv := ssave_any (HF1.out.new hk1.below) (HD1.out.new hk1.below).pows hk1.kat (kNew_ok (planChk_ok restP1_chk)) (snap_ok (planChk_ok restP1_chk) (kNew_ok (planChk_ok restP1_chk)) (by decide)) hp1 rfl restP1_chk
  rw [restP1_text] at hsv
  have HSV1 := hid hsv
  have y0 := blk_cell hx1 0
  have y1 := blk_cell hx1 1
  have y2 := blk_cell hx1 2
  have y3 := blk_cell hx1 3
  have hly := blk_lt hx1
  simp at y0 y1 y2 y3
  have HB2 := hid hk1.below
  clear hk1 hp1 hx1 hw1 HR1 hsv
  go_upto_region 6 with (go_at_call 21; refine HSV1.out.mono ?_; rintro e w3 ⟨T, rfl, hT, hb3⟩)
  have hTT := bytes_of hT
  subst hTT
  have HB3 := hid (HB2.out.trans (hb3.mono HB2.out.size))
  clear hT hb3 y0 y1 y2 y3 hly HSV1
  go_upto_region 8 with fail
  obtain ⟨x0, x1, x2, x3, hlx⟩ := HBX.out w3 HB3.out
  have HBW : Hid (∀ W : World, Below w1.heap.size w1 W → Below w.heap.size w W) := hid fun W hb => HB1.out.trans (hb.mono HB1.out.size)
  by_cases he : planChk m.pl = 0
  rotate_left
  · have HLB1 := hid (HLB.out he w3 (HBW.out _ HB3.out))
    have HNB1 := hid (HNB.out he)
    rw [errV_pos he] at HLB1 HNB1
    go_upto_region 13 with (go_at_call 22; refine HLB1.out.mono ?_; rintro e w4 ⟨rfl, hb4⟩; have HB4 := hid (HB3.out.trans (hb4.mono HB3.out.size)); clear hb4)
    clear x0 x1 x2 x3 hlx
    obtain ⟨x0, x1, x2, x3, hlx⟩ := HBX.out w4 HB4.out
    go_upto_region 15 with (go_at_call 20; refine (HNB1.out _ (HBW.out _ HB4.out)).mono ?_; rintro e w5 ⟨rfl, hb5⟩; have HB5 := hid (HB4.out.trans (hb5.mono HB4.out.size)); clear hb5)
    go_wp2_with fail
    exact snapGoesOn_ret rfl rfl (HBW.out _ HB5.out)
  go_upto_region 9 with (go_at_call 22; refine (HLG.out he w3 (HBW.out _ HB3.out)).mono ?_)
  rintro e w4 hgot
  have hp := planChk_ok he
  have hfork : (∃ kb M L, e = .returned (.tuple #[.pointer (some ⟨kb, 0, none⟩), .nilIface]) ∧ KRun w3 w4 kb m.pl M (loadK m.pl L) ∧ KOk m.pl (loadK m.pl L) 10000000 ∧ snapText (loadK m.pl L) = t.data.toList) ∨ (∃ E : Int, E ≠ 0 ∧ e = .returned (.tuple #[.pointer none, errV E]) ∧ Below w3.heap.size w3 w4) := by
    rcases hgot with ⟨L, hL, ⟨h0, kb, M, h1, h2⟩ | ⟨h0, h1, h2⟩⟩ | ⟨_, h1, h2⟩
    · exact .inl ⟨kb, M, L, h1, h2, load_text hp hL h0⟩
    · exact .inr ⟨_, h0, h1, h2⟩
    · exact .inr ⟨2, by decide, h1, h2⟩
  have HP := hid hp
  clear hgot hp HLG HLB HNB
  rcases hfork with ⟨kb, M, L, rfl, hr, hk, htx⟩ | ⟨E, hE, rfl, hb4⟩
  · have HB4 := hid (HB3.out.trans (hr.below.mono HB3.out.size))
    have HS := hid (HSV.out he w4 kb M _ _ (Int.le_refl _) hk (HBW.out _ HB4.out) hr.kat)
    clear x0 x1 x2 x3 hlx hr hk
    obtain ⟨x0, x1, x2, x3, hlx⟩ := HBX.out w4 HB4.out
    go_upto_region 11 with (go_at_call 21; refine HS.out.mono ?_; rintro e wz ⟨T, rfl, hT, hb5⟩)
    rw [htx] at hT
    have hTt : T = t := by rw [bytes_of hT, ← bytes_of (T := t) rfl]
    subst hTt
    have HBZ := hid (HB4.out.trans (hb5.mono HB4.out.size))
    clear hT hb5 htx HS
    go_upto_region 13 with fail
    clear x0 x1 x2 x3 hlx
    obtain ⟨x0, x1, x2, x3, hlx⟩ := HBX.out wz HBZ.out
    have HNG1 := hid (HNG.out he wz (HBW.out _ HBZ.out))
    go_upto_region 14 with (go_at_call 20; refine HNG1.out.mono ?_; rintro e w6 ⟨kb, M, rfl, hk⟩)
    have HK := hid hk
    clear hk HNG1 x0 x1 x2 x3 hlx
    go_wp2_with fail
    go_loopw [19] (fun v19 wr => ∃ (i : Nat) (M : KM), i ≤ 100 ∧ v19 = .int .i64 i ∧ KRun wz wr kb m.pl M (runK m.pl i)) (fun v19 _ => 100 - (intOf v19).toNat)
    case atStart => exact ⟨0, M, by omega, rfl, HK.out⟩
    case round =>
      obtain ⟨wo, rfl⟩ : ∃ wo : World, wo = wr := ⟨_, rfl⟩
      obtain ⟨i, M, hi, rfl, hkr⟩ := hrel
      have HKR := hid hkr
      have HBR := hid (HBZ.out.trans (hkr.below.mono HBZ.out.size))
      clear hkr HK
      by_cases hin : (i : Int) < n ∧ i < 100
      · obtain ⟨hin, hi100⟩ := hin
        go_wp2_with (go_at_call 23; refine (tick_run HKR.out HP.out (runK_ok HP.out i) (by omega)).mono ?_; rintro e w7 ⟨M', rfl, hk7, _, _⟩; have HK7 := hid hk7; clear hk7)
        go_roundw
        case rel => exact ⟨i + 1, M', by omega, by go_num, HK7.out⟩
        case measure => simp [intOf]; omega
      · obtain ⟨x0, x1, x2, x3, hlx⟩ := HBX.out _ HBR.out
        have HS := hid (HSV.out he wo kb M _ i (by omega) (runK_ok HP.out i) (HBW.out _ HBR.out) HKR.out.kat)
        rcases (show n ≤ (i : Int) ∨ ((i : Int) < n ∧ 100 ≤ i) by omega) with hd | ⟨hd, hd'⟩
        all_goals
          go_upto_region 21 with (go_at_call 21; refine HS.out.mono ?_; rintro e w8 ⟨T, rfl, hT, hb8⟩)
          have HLO1 := hid (HLO.out he w8 T i (by omega) hT (HBW.out _ (HBR.out.trans (hb8.mono HBR.out.size))))
          have HK8 := hid (HKR.out.new hb8)
          have HB8 := hid (HBR.out.trans (hb8.mono HBR.out.size))
          clear x0 x1 x2 x3 hlx hT hb8 HS
          obtain ⟨x0, x1, x2, x3, hlx⟩ := HBX.out w8 HB8.out
          go_upto_region 22 with (go_at_call 22; refine HLO1.out.mono ?_; rintro e w9 ⟨yb, N, rfl, hy⟩)
          have HPR := hid (KPair.mk' HK8.out.g hy.g)
          clear hy x0 x1 x2 x3 hlx HLO1 HK8
          go_wp2_with (first
            | (go_at_call 24; refine (time_run HPR.out.b.run).mono ?_; rintro e wt ⟨rfl, rfl⟩)
            | (go_at_call 24; refine (time_run HPR.out.a.run).mono ?_; rintro e wt ⟨rfl, rfl⟩))
          go_loopw [24] (fun v24 wr => ∃ (j : Nat) (M' N' : KM), j ≤ 100 ∧ v24 = .int .i64 j ∧ KPair 145 215 147 145 215 147 wz wr kb m.pl M' (runK m.pl (i + j)) yb m.pl N' (runK m.pl (i + j))) (fun v24 _ => 100 - (intOf v24).toNat)
          case atStart => exact ⟨0, M, N, by omega, rfl, HPR.out⟩
          case round =>
            obtain ⟨wp, rfl⟩ : ∃ wp : World, wp = wr := ⟨_, rfl⟩
            obtain ⟨j, M2, N2, hj, rfl, hpr⟩ := hrel
            have HPJ := hid hpr
            clear hpr HPR
            by_cases hjm : (j : Int) < mm ∧ j < 100
            · obtain ⟨hjm, hj100⟩ := hjm
              obtain ⟨ev, hev⟩ : ∃ ev, ev = (tick m.pl (runK m.pl (i + j))).1 := ⟨_, rfl⟩
              have HTA : Hid (Calls Tryz.prog 23 #[.pointer (some ⟨kb, 0, none⟩)] wp fun e w' => e = .returned (.agg #[.int .i64 ev.tick, .int .i64 ev.room, .int .i64 ev.pc, .int .i64 ev.what]) ∧ ∃ M3, KPair 145 215 147 145 215 147 wz w' kb m.pl M3 (runK m.pl (i + (j + 1))) yb m.pl N2 (runK m.pl (i + j))) := hid ((tick_run HPJ.out.a.run HP.out (runK_ok HP.out (i + j)) (by omega)).mono fun e w' ⟨M3, h1, h2, h3, h4⟩ => ⟨by rw [hev]; exact h1, M3, HPJ.out.goA h2.g h3 h4⟩)
              have HTB : Hid (∀ w' M3, KPair 145 215 147 145 215 147 wz w' kb m.pl M3 (runK m.pl (i + (j + 1))) yb m.pl N2 (runK m.pl (i + j)) → Calls Tryz.prog 23 #[.pointer (some ⟨yb, 0, none⟩)] w' fun e w'' => e = .returned (.agg #[.int .i64 ev.tick, .int .i64 ev.room, .int .i64 ev.pc, .int .i64 ev.what]) ∧ ∃ N3, KPair 145 215 147 145 215 147 wz w'' kb m.pl M3 (runK m.pl (i + (j + 1))) yb m.pl N3 (runK m.pl (i + (j + 1)))) := hid fun w' M3 hpp => (tick_run hpp.b.run HP.out (runK_ok HP.out (i + j)) (by omega)).mono fun e w'' ⟨N3, h1, h2, h3, h4⟩ => ⟨by rw [hev]; exact h1, N3, hpp.goB h2.g h3 h4⟩
              have hne := event_neq ev
              obtain ⟨xt, xr, xp, xw⟩ := ev
              simp only [] at HTA HTB hne
              clear hev
              go_wp2_with (first
                | (go_at_call 23; refine (HTB.out _ _ HPA.out).mono ?_; rintro e wb ⟨rfl, N3, hpb⟩; have HPB := hid hpb; clear hpb)
                | (go_at_call 23; refine HTA.out.mono ?_; rintro e wa ⟨rfl, M3, hpa⟩; have HPA := hid hpa; clear hpa))
              go_roundw
              case rel => exact ⟨j + 1, M3, N3, by omega, by go_num, HPB.out⟩
              case measure => simp [intOf]; omega
            · have HBP := hid (HBZ.out.trans (HPJ.out.a.below.mono HBZ.out.size))
              obtain ⟨x0, x1, x2, x3, hlx⟩ := HBX.out _ HBP.out
              have HS2 := hid (HSV.out he wp kb M2 _ (i + j : Nat) (by omega) (runK_ok HP.out (i + j)) (HBW.out _ HBP.out) HPJ.out.a.run.kat)
              rcases (show mm ≤ (j : Int) ∨ ((j : Int) < mm ∧ 100 ≤ j) by omega) with hq | ⟨hq, hq'⟩
              all_goals
                go_upto_region 30 with (go_at_call 21; refine HS2.out.mono ?_; rintro e wu ⟨Ta, rfl, hTa, hbu⟩)
                have HBU := hid (HBP.out.trans (hbu.mono HBP.out.size))
                have HS3 := hid (HSV.out he wu yb N2 _ (i + j : Nat) (by omega) (runK_ok HP.out (i + j)) (HBW.out _ HBU.out) (HPJ.out.new hbu).b.run.kat)
                have HTa := hid hTa
                clear x0 x1 x2 x3 hlx hTa hbu HS2
                obtain ⟨x0, x1, x2, x3, hlx⟩ := HBX.out _ HBU.out
                go_upto_region 31 with (go_at_call 21; refine HS3.out.mono ?_; rintro e wv ⟨Tb, rfl, hTb, hbv⟩)
                have hTT : Tb = Ta := by rw [bytes_of hTb, bytes_of HTa.out]
                subst hTT
                have HBV := hid (HBU.out.trans (hbv.mono HBU.out.size))
                clear hTb hbv x0 x1 x2 x3 hlx
                go_wp2_with fail
                exact snapGoesOn_ret rfl rfl (HBW.out _ HBV.out)
  · rw [errV_pos hE]
    obtain ⟨wz, rfl⟩ : ∃ wz : World, wz = w4 := ⟨_, rfl⟩
    have HBZ := hid (HB3.out.trans (hb4.mono HB3.out.size))
    clear hb4
    go_upto_region 13 with fail
    clear x0 x1 x2 x3 hlx
    obtain ⟨x0, x1, x2, x3, hlx⟩ := HBX.out wz HBZ.out
    have HNG1 := hid (HNG.out he wz (HBW.out _ HBZ.out))
    go_upto_region 14 with (go_at_call 20; refine HNG1.out.mono ?_; rintro e w6 ⟨kb, M, rfl, hk⟩)
    have HK := hid hk
    clear hk HNG1 x0 x1 x2 x3 hlx
    go_wp2_with fail
    go_loopw [19] (fun v19 wr => ∃ (i : Nat) (M : KM), i ≤ 100 ∧ v19 = .int .i64 i ∧ KRun wz wr kb m.pl M (runK m.pl i)) (fun v19 _ => 100 - (intOf v19).toNat)
    case atStart => exact ⟨0, M, by omega, rfl, HK.out⟩
    case round =>
      obtain ⟨wo, rfl⟩ : ∃ wo : World, wo = wr := ⟨_, rfl⟩
      obtain ⟨i, M, hi, rfl, hkr⟩ := hrel
      have HKR := hid hkr
      have HBR := hid (HBZ.out.trans (hkr.below.mono HBZ.out.size))
      clear hkr HK
      by_cases hin : (i : Int) < n ∧ i < 100
      · obtain ⟨hin, hi100⟩ := hin
        go_wp2_with (go_at_call 23; refine (tick_run HKR.out HP.out (runK_ok HP.out i) (by omega)).mono ?_; rintro e w7 ⟨M', rfl, hk7, _, _⟩; have HK7 := hid hk7; clear hk7)
        go_roundw
        case rel => exact ⟨i + 1, M', by omega, by go_num, HK7.out⟩
        case measure => simp [intOf]; omega
      · obtain ⟨x0, x1, x2, x3, hlx⟩ := HBX.out _ HBR.out
        have HS := hid (HSV.out he wo kb M _ i (by omega) (runK_ok HP.out i) (HBW.out _ HBR.out) HKR.out.kat)
        rcases (show n ≤ (i : Int) ∨ ((i : Int) < n ∧ 100 ≤ i) by omega) with hd | ⟨hd, hd'⟩
        all_goals
          go_upto_region 21 with (go_at_call 21; refine HS.out.mono ?_; rintro e w8 ⟨T, rfl, hT, hb8⟩)
          have HLO1 := hid (HLO.out he w8 T i (by omega) hT (HBW.out _ (HBR.out.trans (hb8.mono HBR.out.size))))
          have HK8 := hid (HKR.out.new hb8)
          have HB8 := hid (HBR.out.trans (hb8.mono HBR.out.size))
          clear x0 x1 x2 x3 hlx hT hb8 HS
          obtain ⟨x0, x1, x2, x3, hlx⟩ := HBX.out w8 HB8.out
          go_upto_region 22 with (go_at_call 22; refine HLO1.out.mono ?_; rintro e w9 ⟨yb, N, rfl, hy⟩)
          have HPR := hid (KPair.mk' HK8.out.g hy.g)
          clear hy x0 x1 x2 x3 hlx HLO1 HK8
          go_wp2_with (first
            | (go_at_call 24; refine (time_run HPR.out.b.run).mono ?_; rintro e wt ⟨rfl, rfl⟩)
            | (go_at_call 24; refine (time_run HPR.out.a.run).mono ?_; rintro e wt ⟨rfl, rfl⟩))
          go_loopw [24] (fun v24 wr => ∃ (j : Nat) (M' N' : KM), j ≤ 100 ∧ v24 = .int .i64 j ∧ KPair 145 215 147 145 215 147 wz wr kb m.pl M' (runK m.pl (i + j)) yb m.pl N' (runK m.pl (i + j))) (fun v24 _ => 100 - (intOf v24).toNat)
          case atStart => exact ⟨0, M, N, by omega, rfl, HPR.out⟩
          case round =>
            obtain ⟨wp, rfl⟩ : ∃ wp : World, wp = wr := ⟨_, rfl⟩
            obtain ⟨j, M2, N2, hj, rfl, hpr⟩ := hrel
            have HPJ := hid hpr
            clear hpr HPR
            by_cases hjm : (j : Int) < mm ∧ j < 100
            · obtain ⟨hjm, hj100⟩ := hjm
              obtain ⟨ev, hev⟩ : ∃ ev, ev = (tick m.pl (runK m.pl (i + j))).1 := ⟨_, rfl⟩
              have HTA : Hid (Calls Tryz.prog 23 #[.pointer (some ⟨kb, 0, none⟩)] wp fun e w' => e = .returned (.agg #[.int .i64 ev.tick, .int .i64 ev.room, .int .i64 ev.pc, .int .i64 ev.what]) ∧ ∃ M3, KPair 145 215 147 145 215 147 wz w' kb m.pl M3 (runK m.pl (i + (j + 1))) yb m.pl N2 (runK m.pl (i + j))) := hid ((tick_run HPJ.out.a.run HP.out (runK_ok HP.out (i + j)) (by omega)).mono fun e w' ⟨M3, h1, h2, h3, h4⟩ => ⟨by rw [hev]; exact h1, M3, HPJ.out.goA h2.g h3 h4⟩)
              have HTB : Hid (∀ w' M3, KPair 145 215 147 145 215 147 wz w' kb m.pl M3 (runK m.pl (i + (j + 1))) yb m.pl N2 (runK m.pl (i + j)) → Calls Tryz.prog 23 #[.pointer (some ⟨yb, 0, none⟩)] w' fun e w'' => e = .returned (.agg #[.int .i64 ev.tick, .int .i64 ev.room, .int .i64 ev.pc, .int .i64 ev.what]) ∧ ∃ N3, KPair 145 215 147 145 215 147 wz w'' kb m.pl M3 (runK m.pl (i + (j + 1))) yb m.pl N3 (runK m.pl (i + (j + 1)))) := hid fun w' M3 hpp => (tick_run hpp.b.run HP.out (runK_ok HP.out (i + j)) (by omega)).mono fun e w'' ⟨N3, h1, h2, h3, h4⟩ => ⟨by rw [hev]; exact h1, N3, hpp.goB h2.g h3 h4⟩
              have hne := event_neq ev
              obtain ⟨xt, xr, xp, xw⟩ := ev
              simp only [] at HTA HTB hne
              clear hev
              go_wp2_with (first
                | (go_at_call 23; refine (HTB.out _ _ HPA.out).mono ?_; rintro e wb ⟨rfl, N3, hpb⟩; have HPB := hid hpb; clear hpb)
                | (go_at_call 23; refine HTA.out.mono ?_; rintro e wa ⟨rfl, M3, hpa⟩; have HPA := hid hpa; clear hpa))
              go_roundw
              case rel => exact ⟨j + 1, M3, N3, by omega, by go_num, HPB.out⟩
              case measure => simp [intOf]; omega
            · have HBP := hid (HBZ.out.trans (HPJ.out.a.below.mono HBZ.out.size))
              obtain ⟨x0, x1, x2, x3, hlx⟩ := HBX.out _ HBP.out
              have HS2 := hid (HSV.out he wp kb M2 _ (i + j : Nat) (by omega) (runK_ok HP.out (i + j)) (HBW.out _ HBP.out) HPJ.out.a.run.kat)
              rcases (show mm ≤ (j : Int) ∨ ((j : Int) < mm ∧ 100 ≤ j) by omega) with hq | ⟨hq, hq'⟩
              all_goals
                go_upto_region 30 with (go_at_call 21; refine HS2.out.mono ?_; rintro e wu ⟨Ta, rfl, hTa, hbu⟩)
                have HBU := hid (HBP.out.trans (hbu.mono HBP.out.size))
                have HS3 := hid (HSV.out he wu yb N2 _ (i + j : Nat) (by omega) (runK_ok HP.out (i + j)) (HBW.out _ HBU.out) (HPJ.out.new hbu).b.run.kat)
                have HTa := hid hTa
                clear x0 x1 x2 x3 hlx hTa hbu HS2
                obtain ⟨x0, x1, x2, x3, hlx⟩ := HBX.out _ HBU.out
                go_upto_region 31 with (go_at_call 21; refine HS3.out.mono ?_; rintro e wv ⟨Tb, rfl, hTb, hbv⟩)
                have hTT : Tb = Ta := by rw [bytes_of hTb, bytes_of HTa.out]
                subst hTT
                have HBV := hid (HBU.out.trans (hbv.mono HBU.out.size))
                clear hTb hbv x0 x1 x2 x3 hlx
                go_wp2_with fail
                exact snapGoesOn_ret rfl rfl (HBW.out _ HBV.out)
end Go.Proofs.YtldllmhgofacbaaGreatDoor
