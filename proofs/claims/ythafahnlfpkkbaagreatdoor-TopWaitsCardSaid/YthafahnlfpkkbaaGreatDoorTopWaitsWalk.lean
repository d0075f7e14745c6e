/- The walk of frametop.TopWaits: it returns true at every input. -/
import Derived.Test.YthafahnlfpkkbaaGreatDoorTopWaitsLaw
import Derived.Test.YthafahnlfpkkbaaGreatDoorEvU
import Derived.Test.YthafahnlfpkkbaaGreatDoorTraceU
import Derived.Test.YthafahnlfpkkbaaGreatDoorCareNew
import Derived.Test.YthafahnlfpkkbaaGreatDoorTopOne
import Derived.Test.YthafahnlfpkkbaaGreatDoorSupply2
import Derived.Test.YthafahnlfpkkbaaGreatDoorStandRow
namespace Go.Proofs.YthafahnlfpkkbaaGreatDoor
open Go.RowKit
set_option maxRecDepth 100000

theorem topWaits_ret {w w' : World} {a : Act} (h : a.tmps[8]? = some (.bool true)) (hd : a.defers = []) (hb : Below w.heap.size w w') : bodyPost Tryz.prog Tryz.f7 (fun e w' => e = .returned (.bool true) ∧ Below w.heap.size w w') .ret a w' :=
  bodyPost_ret (v := .bool true) (by simp [results, Tryz.results7, go_sem, h]) hd ⟨rfl, hb⟩
/-- What Wait tells, in short: an error, or so many ticks. -/
def WaitShort (w : World) (ticks : Int) (l : List Span) (r turns : Int) (e : Ending) (w' : World) : Prop :=
  Below w.heap.size w w' ∧ ((∃ k : Int, k ≠ 0 ∧ e = .returned (.tuple #[.int .i64 0, errV k])) ∨
    (∃ (v : Nat) (T : Nat), e = .returned (.tuple #[.int .i64 v, .nilIface]) ∧ v ≤ 8000 ∧ ticks = T ∧ 0 ≤ turns ∧ turns ≤ 100 ∧ wIn r (-1) 4 = true ∧ turns.toNat ≤ cntH (hitB l T r) 0 v))
theorem wait_short (ticks room k : Int) (A : Option Addr) (n c : Nat) (l : List Span) (w : World) (hn : l.length = n) (hs : Sl w A 3 n (l.flatMap Span.cells)) (hsw : SlW A c n) :
    Calls Tryz.prog 34 #[.int .i64 ticks, .slice A n c, .int .i64 room, .int .i64 k] w (WaitShort w ticks l room k) := by
  refine (sup_wait ticks room k A n c l w hn hs hsw).mono ?_
  rintro e w' ⟨hb, h⟩
  refine ⟨hb, ?_⟩
  by_cases h1 : readyOf ticks l room ≠ 0
  · rw [if_pos h1] at h; exact .inl ⟨_, h1, h⟩
  rw [if_neg h1] at h
  by_cases h2 : k < 0 ∨ 100 < k
  · rw [if_pos h2] at h; exact .inl ⟨1, by decide, h⟩
  rw [if_neg h2] at h
  by_cases h3 : k ≠ 0 ∧ cntH (hitB l ticks.toNat room) 0 ticks.toNat = 0
  · rw [if_pos h3] at h; exact .inl ⟨5, by decide, h⟩
  rw [if_neg h3] at h
  obtain ⟨v, h4, h5, h6⟩ := h
  obtain ⟨hf, hr⟩ := readyOf_ok (Decidable.not_not.1 h1)
  obtain ⟨g1, g2, g3⟩ := frameChk_ticks hf
  refine .inr ⟨v, ticks.toNat, by rw [h4, errV_zero], h6, by omega, by omega, by omega, ?_, ?_⟩
  · unfold roomB at hr
    have hr2 : 0 ≤ room ∧ room < 5 := by simpa using hr
    unfold wIn
    rw [decide_eq_true (by omega), decide_eq_true (by omega)]; rfl
  · have h7 : ticks = (ticks.toNat : Int) := by omega
    have := leastH_le (hitB_again l ticks.toNat room) (show 0 < ticks.toNat by omega) v 0
    exact Nat.le_trans h5.1 this

set_option maxHeartbeats 40000000 in
theorem topWaits_walk {w : World} (hf : Forms w) (hd : Desk w) (m : PM) (hm : PlanAt w m) (A : Option Addr) (c : Nat) (what : List Int) (hs : Sl w A 1 what.length (ints what)) (hsw : SlW A c what.length) (r turns : Int) :
    Calls Tryz.prog 7 #[.agg #[.slice m.A m.ros.length m.c, .int .i64 m.ticks, .slice m.sA m.spans.length m.sc, .slice m.wA m.wires.length m.wc], .slice A what.length c, .int .i64 r, .int .i64 turns] w fun e w' => e = .returned (.bool true) ∧ Below w.heap.size w w' := by
  obtain ⟨w1, hw1⟩ : ∃ w1, w1 = w.alloc (.cells #[.slice m.A m.ros.length m.c, .int .i64 m.ticks, .slice m.sA m.spans.length m.sc, .slice m.wA m.wires.length m.wc] 26) := ⟨_, rfl⟩
  have hb1 : Below w.heap.size w w1 := by rw [hw1]; exact (Below.refl _ _).alloc (Nat.le_refl _) _
  have hbox : w1.heap[w.heap.size]? = some (.cells #[.slice m.A m.ros.length m.c, .int .i64 m.ticks, .slice m.sA m.spans.length m.sc, .slice m.wA m.wires.length m.wc] 26 (0, 0)) := by rw [hw1]; exact heap_alloc_new w _
  obtain ⟨ie, hie, hz0, hz1, hz2⟩ := info_parts Tryz.infoEvent
  have HD1 : Hid (∀ w', Below w1.heap.size w1 w' → Desk w') := hid fun w' hb => hd.new (hb1.trans (hb.mono hb1.size))
  have HF1 : Hid (Forms w1) := hid (hf.new hb1)
  have HM1 : Hid (∀ w', Below w1.heap.size w1 w' → PlanAt w' m) := hid fun w' hb => hm.new (hb1.trans (hb.mono hb1.size))
  have HBAD : Hid (careE m.pl what 100 ≠ 0 → ∀ w', Below w1.heap.size w1 w' → Calls Tryz.prog 33 #[.agg #[.slice m.A m.ros.length m.c, .int .i64 m.ticks, .slice m.sA m.spans.length m.sc, .slice m.wA m.wires.length m.wc], .slice A what.length c, .int .i64 100] w' (CNot w' (careE m.pl what 100))) :=
    hid fun he w' hb => careNew_bad (hf.new (hb1.trans (hb.mono hb1.size))) (hm.new (hb1.trans (hb.mono hb1.size))) (hs.new (hb1.trans (hb.mono hb1.size))) he
  have HGOOD : Hid (careE m.pl what 100 = 0 → ∀ w', Below w1.heap.size w1 w' → Calls Tryz.prog 33 #[.agg #[.slice m.A m.ros.length m.c, .int .i64 m.ticks, .slice m.sA m.spans.length m.sc, .slice m.wA m.wires.length m.wc], .slice A what.length c, .int .i64 100] w' (CMade w' m.pl what 100)) :=
    hid fun he w' hb => careNew_good (hf.new (hb1.trans (hb.mono hb1.size))) (hm.new (hb1.trans (hb.mono hb1.size))) (hs.new (hb1.trans (hb.mono hb1.size))) hsw he
  unfold CNot at HBAD
  unfold CMade at HGOOD
  have HWAIT : Hid (∀ w', Below w1.heap.size w1 w' → Calls Tryz.prog 34 #[.int .i64 m.ticks, .slice m.sA m.spans.length m.sc, .int .i64 r, .int .i64 turns] w' (WaitShort w' m.ticks m.spans r turns)) :=
    hid fun w' hb => wait_short m.ticks r turns m.sA m.spans.length m.sc m.spans w' rfl ((hm.new (hb1.trans (hb.mono hb1.size))).spans) hm.spansW
  unfold WaitShort at HWAIT
  obtain ⟨nn, hnn⟩ : ∃ nn, m.ros.length = nn := ⟨_, rfl⟩
  obtain ⟨ns, hns⟩ : ∃ ns, m.spans.length = ns := ⟨_, rfl⟩
  obtain ⟨nw, hnw⟩ : ∃ nw, m.wires.length = nw := ⟨_, rfl⟩
  obtain ⟨nl, hnl⟩ : ∃ nl, what.length = nl := ⟨_, rfl⟩
  rw [hnn, hns, hnw] at hw1 hbox HBAD HGOOD ⊢
  rw [hns] at HWAIT
  rw [hnl] at HBAD HGOOD ⊢
  have HB1 := hid hb1
  have HBX : Hid (∀ w', Below w1.heap.size w1 w' → w'.cell? ⟨w.heap.size, 0, none⟩ = some (.slice m.A nn m.c) ∧ w'.cell? ⟨w.heap.size, 1, none⟩ = some (.int .i64 m.ticks) ∧ w'.cell? ⟨w.heap.size, 2, none⟩ = some (.slice m.sA ns m.sc) ∧ w'.cell? ⟨w.heap.size, 3, none⟩ = some (.slice m.wA nw m.wc) ∧ w.heap.size < w'.heap.size) := hid fun w' hb => by
    have h := (hb.block _ (blk_lt hbox)).trans hbox
    have x0 := blk_cell h 0
    have x1 := blk_cell h 1
    have x2 := blk_cell h 2
    have x3 := blk_cell h 3
    simp at x0 x1 x2 x3
    exact ⟨x0, x1, x2, x3, blk_lt h⟩
  clear hf hd hm hs hsw hb1 hbox hnn hns hnw hnl
  go_enter Tryz.func7, Tryz.ntmps7
  go_wp2_with fail
  rw [← hw1]
  refine (top_one HF1.out).mono ?_
  rintro e w2 ⟨rfl, hb2⟩
  have HB2 := hid hb2
  obtain ⟨x0, x1, x2, x3, hlx⟩ := HBX.out w2 hb2
  clear hb2 hw1
  go_wp2_with fail
  by_cases he : careE m.pl what 100 = 0
  · refine (HGOOD.out he w2 HB2.out).mono ?_
    rintro e w3 ⟨cb, C, rfl, hst, _⟩
    have HST := hid hst
    have HB3 := hid (HB2.out.trans (hst.below.mono HB2.out.size))
    have HE := hid he
    clear hst he x0 x1 x2 x3 hlx
    obtain ⟨x0, x1, x2, x3, hlx⟩ := HBX.out w3 HB3.out
    go_wp2_with fail
    refine (HWAIT.out w3 HB3.out).mono ?_
    rintro e w4 ⟨hb4, ⟨k, hk, rfl⟩ | ⟨v, T, rfl, hv, hT, ht0, ht1, hr, hcnt⟩⟩
    · have HB4 := hid (HB3.out.trans (hb4.mono HB3.out.size))
      clear hb4
      rw [errV_pos hk]
      go_wp2_with fail
      exact topWaits_ret rfl rfl (HB1.out.trans (HB4.out.mono HB1.out.size))
    · have HB4 := hid (HB3.out.trans (hb4.mono HB3.out.size))
      have HS4 := hid (HST.out.new hb4)
      have HT := hid hT
      have HR := hid hr
      have HCNT := hid hcnt
      clear hb4 hT hr hcnt HST x0 x1 x2 x3 hlx
      by_cases hv3 : 300 < v
      · go_wp2_with fail
        exact topWaits_ret rfl rfl (HB1.out.trans (HB4.out.mono HB1.out.size))
      · obtain ⟨he0, hwl, _, _, _⟩ := careE_zero HE.out
        have HP := hid (planChk_ok he0)
        have HWL := hid hwl
        clear he0 hwl
        obtain ⟨tn, rfl⟩ : ∃ tn : Nat, turns = tn := ⟨turns.toNat, by omega⟩
        rw [Int.toNat_natCast] at HCNT
        have hS0 : Stand w2 w4 [careT cb m.pl what 100 C (runC m.pl what 100 0), rowT 32 4 none 0 0 ((cevsTo m.pl what 100 0).flatMap Ev.cells)] := stand_nil HS4.out _ _
        have HS0 := hid hS0
        clear hS0 HS4
        go_wp2_with fail
        go_loopw [13, 14] (fun v12 v13 wr => ∃ (i : Nat) (C' : CM) (B : Option Addr) (cap : Nat), i ≤ v ∧ v13 = .int .i64 i ∧ v12 = .slice B i cap ∧ Stand w2 wr [careT cb m.pl what 100 C' (runC m.pl what 100 i), rowT 32 4 B i cap ((cevsTo m.pl what 100 i).flatMap Ev.cells)]) (fun _ v13 _ => v - (intOf v13).toNat)
        case atStart => exact ⟨0, C, none, 0, by omega, rfl, rfl, HS0.out⟩
        case round =>
          obtain ⟨wo, rfl⟩ : ∃ wo : World, wo = wr := ⟨_, rfl⟩
          obtain ⟨i, C', B, cap, hi, rfl, rfl, hst⟩ := hrel
          have HS := hid hst
          clear hst HS0
          by_cases hiv : i < v
          · go_wp2_with fail
            refine (ctick_any HP.out (runC_ok HP.out (by decide) i) (by omega) HWL.out (by decide) (HS.out.get (i := 0) rfl).here).mono ?_
            rintro e w5 ⟨C2, rfl, hw⟩
            have hst5 := HS.out.go 0 rfl hw
            have HS5 : Hid (Stand w2 w5 [careT cb m.pl what 100 C2 (runC m.pl what 100 (i + 1)), rowT 32 4 B i cap ((cevsTo m.pl what 100 i).flatMap Ev.cells)]) := hst5
            obtain ⟨x, hx⟩ : ∃ x, x = cevAt m.pl what 100 i := ⟨_, rfl⟩
            rw [show (careTick m.pl what 100 (runC m.pl what 100 i)).1 = x from hx.symm]
            have HX := hid hx
            obtain ⟨xt, xr, xp, xw⟩ := x
            simp only []
            clear hst5 hw hx
            go_wp2_with (at_builtin; refine wpList_append_row _ rfl _ _ 27 rfl 32 ie _ 4 32 Tryz.underlying27 hie hz0 hz1 hz2 rfl (by decide) B i cap ((cevsTo m.pl what 100 i).flatMap Ev.cells) rfl ?c0 (some ⟨w5.heap.size + 1, 0, none⟩) 1 1 (Ev.cells ⟨xt, xr, xp, xw⟩) rfl ?c1 ?c2 ?c3 ?c4 ?_)
            case c0 => exact Row.new (HS5.out.get (i := 1) rfl).here (((Below.refl _ w5).alloc (Nat.le_refl _) _).alloc (by simp) _)
            case c1 =>
              have h := heap_alloc_new (w5.alloc (.cells #[.int .i64 xt, .int .i64 xr, .int .i64 xp, .int .i64 xw] 32)) (.cells #[.int .i64 xt, .int .i64 xr, .int .i64 xp, .int .i64 xw] 32)
              rw [sz_alloc] at h
              exact sl_blk h 4 1 _ rfl rfl
            case c2 => exact ev_one _
            case c3 => unfold maxLen; omega
            case c4 => omega
            intro B2 cap2 w6 hr6 hk6 hn6
            have hst6 := (HS5.out.new (((Below.refl _ w5).alloc (Nat.le_refl _) (.cells #[.int .i64 xt, .int .i64 xr, .int .i64 xp, .int .i64 xw] 32)).alloc (by simp) (.cells #[.int .i64 xt, .int .i64 xr, .int .i64 xp, .int .i64 xw] 32))).go 1 rfl (row_went hr6 hk6 (fun i hi => by rw [sz_alloc, sz_alloc]; exact hn6 i hi))
            have HS6 : Hid (Stand w2 w6 [careT cb m.pl what 100 C2 (runC m.pl what 100 (i + 1)), rowT 32 4 B2 (i + 1) cap2 ((cevsTo m.pl what 100 (i + 1)).flatMap Ev.cells)]) := by
              rw [cevsTo_succ, List.flatMap_append, List.flatMap_cons, List.flatMap_nil, List.append_nil, ← HX.out]
              exact hst6
            clear hst6 hr6 hk6 hn6
            go_wp2_with fail
            go_roundw
            case rel => exact ⟨i + 1, C2, B2, cap2, by omega, by go_num, rfl, HS6.out⟩
            case measure => simp [intOf]; omega
          · obtain rfl : i = v := by omega
            have hrow : Row wo 32 4 B i cap ((cevsTo m.pl what 100 i).flatMap Ev.cells) := (HS.out.get (i := 1) rfl).here
            have HROW := hid hrow
            have HBO := hid (HB2.out.trans (HS.out.below.mono HB2.out.size))
            have hle := hrow.le.1
            have hsum := cevs_turns (what := what) HP.out (show (0 : Int) ≤ 100 by decide) HT.out r i
            have hall := cevs_ok (what := what) HP.out (show (0 : Int) ≤ 100 by decide) (show i ≤ 2000 by omega)
            have hlen := cevsTo_len (p := m.pl) (what := what) (most := 100) i
            generalize cevsTo m.pl what 100 i = l at hrow HROW hsum hall hlen
            have HSUM : Hid (tn ≤ left r l) := hid (by rw [hsum]; exact HCNT.out)
            have HLN := hid hlen
            have HALL := hid hall
            have HOF := hid (of_good B i cap l r wo hlen hrow.sl (row_slW hrow) (by omega) hall HR.out)
            clear hrow hsum hall hlen HS HCNT
            go_wp2_with fail
            refine HOF.out.mono ?_
            rintro e w5 ⟨A5, k5, c5, rfl, hk5, hkn5, hb5⟩
            have HB5 := hid (HBO.out.trans (hb5.mono HBO.out.size))
            have HR5 := hid (HROW.out.new hb5)
            have htk : (tn : Int) ≤ k5 := by have := HSUM.out; omega
            clear hk5 hb5 HOF HSUM
            have hpl := tprint_any B i cap l w5 HLN.out (HD1.out w5 HB5.out).pows HR5.out.sl (row_slW HR5.out)
            unfold TPrinted at hpl
            rw [if_pos HALL.out, HALL.out, errV_zero] at hpl
            go_wp2_with fail
            refine hpl.mono ?_
            clear hpl
            rintro e w6 ⟨rfl, hb6⟩
            have HB6 := hid (HB5.out.trans (hb6.mono HB5.out.size))
            have HR6 := hid (HR5.out.new hb6)
            clear hb6
            go_wp2_with fail
            refine (own_evs HLN.out HALL.out w6 (HD1.out w6 HB6.out)).mono ?_
            rintro e w7 ⟨A7, c7, rfl, hrow7, hb7⟩
            have HB7 := hid (HB6.out.trans (hb7.mono HB6.out.size))
            have HSAME := hid (same_evs A7 B i c7 cap l w7 HLN.out hrow7.sl (HR6.out.new hb7).sl (by omega) hrow7.le.1 hle)
            clear hrow7 hb7
            go_wp2_with (go_at_call 16; refine HSAME.out.mono ?_; rintro e w8 ⟨rfl, nq, hw8⟩; have HB8 : Hid (Below w1.heap.size w1 w8) := hid (by rw [hw8]; exact belowQE HB7.out nq); clear hw8 HSAME)
            exact topWaits_ret rfl rfl (HB1.out.trans (HB8.out.mono HB1.out.size))
  · refine (HBAD.out he w2 HB2.out).mono ?_
    rintro e w3 ⟨rfl, hb3⟩
    have HB3 := hid (HB2.out.trans (hb3.mono HB2.out.size))
    clear hb3
    rw [errV_pos he]
    go_wp2_with fail
    exact topWaits_ret rfl rfl (HB1.out.trans (HB3.out.mono HB1.out.size))
end Go.Proofs.YthafahnlfpkkbaaGreatDoor
