/- The walk of framelaw3.SnapTells: it returns true at every input whose text is of at most 2^30 bytes. Conditions: the plan's memory, the text desk of the row, the cell of errors.errorType. -/
import Derived.Test.YtldllmhgofacbaaGreatDoorRSaveWT
import Derived.Test.YtldllmhgofacbaaGreatDoorRLoadWT
import Derived.Test.YtldllmhgofacbaaGreatDoorRPlanU
import Derived.Test.YtldllmhgofacbaaGreatDoorSnapGU
import Derived.Test.YtldllmhgofacbaaGreatDoorDoorU
import Derived.Test.YtldllmhgofacbaaGreatDoorSameU
import Derived.Test.YtldllmhgofacbaaGreatDoorPart
namespace Go.Proofs.YtldllmhgofacbaaGreatDoor
open Go.RowKit
set_option maxRecDepth 100000

theorem snapTells_ret {w w' : World} {a : Act} (h : a.tmps[6]? = some (.bool true)) (hd : a.defers = []) (hb : Below w.heap.size w w') : bodyPost Tryz.prog Tryz.f5 (fun e w' => e = .returned (.bool true) ∧ Below w.heap.size w w') .ret a w' :=
  bodyPost_ret (v := .bool true) (by simp [results, Tryz.results5, go_sem, h]) hd ⟨rfl, hb⟩
theorem bytesT_of {T : ByteArray} {l : List UInt8} (h : T.data.toList = l) : T = ⟨l.toArray⟩ := by
  cases T with
  | mk d => simp only at h; rw [← h]
def SavedT (k : Kst) (w' : World) (e : Ending) (w'' : World) : Prop := ∃ T : ByteArray, e = .returned (.tuple #[.string T, .nilIface]) ∧ T.data.toList = snapText k ∧ Below w'.heap.size w' w''
/-- So many ticks on. -/
def goS (p : Pl) (k : Kst) : Nat → Kst
  | 0 => k
  | t + 1 => (tick p (goS p k t)).2
theorem goS_ok {p : Pl} (hp : PlOk p) {k : Kst} {B : Int} (hk : KOk p k B) : ∀ t : Nat, KOk p (goS p k t) (B + t)
  | 0 => by rw [show B + ((0 : Nat) : Int) = B by omega]; exact hk
  | t + 1 => by
    have h := tick_ok hp (goS_ok hp hk t) (spans_ok hp)
    rw [show B + ((t + 1 : Nat) : Int) = B + t + 1 by omega]; exact h
abbrev pkT (kb : Nat) (p : Pl) (M : KM) (k : Kst) : Tg := kT 145 215 147 kb p M k
theorem Stand.addP {w0 w w1 : World} {ts : List Tg} {kb : Nat} {p : Pl} {M : KM} {k : Kst} (h : Stand w0 w ts) (hr : KRun w w1 kb p M k) : Stand w0 w1 (ts ++ [pkT kb p M k]) :=
  h.add hr.below (k_lie hr.kat hr.plan) (fun j hj => hr.fresh j (.inl hj)) (fun j hj => .inl (hr.fresh j hj))
theorem ptick_stand {w0 wr : World} {ts : List Tg} {i kb : Nat} {p : Pl} {M : KM} {k : Kst} {B : Int} (h : Stand w0 wr ts) (hi : ts[i]? = some (pkT kb p M k)) (hp : PlOk p) (hk : KOk p k B) (hB : B < 4611686018427387904) :
    Calls Tryz.prog 23 #[.pointer (some ⟨kb, 0, none⟩)] wr fun e w' => ∃ M', e = .returned (.agg #[.int .i64 (tick p k).1.tick, .int .i64 (tick p k).1.room, .int .i64 (tick p k).1.pc, .int .i64 (tick p k).1.what]) ∧ Stand w0 w' (ts.set i (pkT kb p M' (tick p k).2)) := by
  have hk1 := (h.get hi).here
  refine (ktick_any wr kb M k p B hp hk1.2 hk hB hk1.1).mono ?_
  rintro e w' ⟨M', rfl, h1, h2, h3, h4⟩
  exact ⟨M', rfl, h.go i hi (k_went (h.get hi) h1 h2 h3 h4)⟩
/-- Load in one form. -/
def SLoadOne (w : World) (p : Pl) (t : ByteArray) (e : Ending) (w' : World) : Prop :=
  (textE p t.data.toList = 0 ∧ ∃ kb M, e = .returned (.tuple #[.pointer (some ⟨kb, 0, none⟩), .nilIface]) ∧ KRun w w' kb p M (loadK p (tabOf p t.data.toList))) ∨
  (textE p t.data.toList ≠ 0 ∧ e = .returned (.tuple #[.pointer none, errV (textE p t.data.toList)]) ∧ Below w.heap.size w w')
theorem sload_one {w w' : World} {p : Pl} {t : ByteArray} {e : Ending} (h : SLoadGot w p t e w') : SLoadOne w p t e w' := by
  rcases h with ⟨L, hL, ⟨h0, kb, M, h1, h2⟩ | ⟨h0, h1, h2⟩⟩ | ⟨h0, h1, h2⟩
  · obtain ⟨e1, e2⟩ := text_tab hL
    exact .inl ⟨by rw [e2]; exact h0, kb, M, h1, by rw [e1]; exact h2⟩
  · obtain ⟨e1, e2⟩ := text_tab hL
    exact .inr ⟨by rw [e2]; exact h0, by rw [e2]; exact h1, h2⟩
  · have e2 := text_none h0
    exact .inr ⟨by rw [e2]; decide, by rw [e2]; exact h1, h2⟩

set_option maxHeartbeats 40000000 in
theorem snapTells_walk {w : World} (hg : Handle w) (hf : Forms w) (_ : Names w) (hd : Desk w) (m : PM) (hm : PlanAt w m) (n : Int) (t : ByteArray) (ht : t.size ≤ 1073741824) :
    Calls Tryz.prog 5 #[.agg #[.slice m.A m.ros.length m.c, .int .i64 m.ticks, .slice m.sA m.spans.length m.sc, .slice m.wA m.wires.length m.wc], .int .i64 n, .string t] w fun e w' => e = .returned (.bool true) ∧ Below w.heap.size w w' := by
  obtain ⟨w1, hw1⟩ : ∃ w1, w1 = w.alloc (.cells #[.slice m.A m.ros.length m.c, .int .i64 m.ticks, .slice m.sA m.spans.length m.sc, .slice m.wA m.wires.length m.wc] 26) := ⟨_, rfl⟩
  have hb1 : Below w.heap.size w w1 := by rw [hw1]; exact (Below.refl _ _).alloc (Nat.le_refl _) _
  have hbox : w1.heap[w.heap.size]? = some (.cells #[.slice m.A m.ros.length m.c, .int .i64 m.ticks, .slice m.sA m.spans.length m.sc, .slice m.wA m.wires.length m.wc] 26 (0, 0)) := by rw [hw1]; exact heap_alloc_new w _
  have HD1 : Hid (∀ w', Below w1.heap.size w1 w' → Desk w') := hid fun w' hb => hd.new (hb1.trans (hb.mono hb1.size))
  have HF1 : Hid (∀ w', Below w1.heap.size w1 w' → Forms w') := hid fun w' hb => hf.new (hb1.trans (hb.mono hb1.size))
  have HM1 : Hid (∀ w', Below w1.heap.size w1 w' → PlanAt w' m) := hid fun w' hb => hm.new (hb1.trans (hb.mono hb1.size))
  have HPF := hid hm.lt
  have HRP : Hid (∀ w', Below w1.heap.size w1 w' → Calls Tryz.prog 12 #[.agg #[.slice m.A m.ros.length m.c, .int .i64 m.ticks, .slice m.sA m.spans.length m.sc, .slice m.wA m.wires.length m.wc]] w' fun e w'' => e = .returned (.int .i64 (planChk m.pl)) ∧ Below w'.heap.size w' w'') := hid fun w' hb => rplan_any w' m (HM1.out w' hb)
  have HNB : Hid (planChk m.pl ≠ 0 → ∀ w', Below w1.heap.size w1 w' → Calls Tryz.prog 20 #[.agg #[.slice m.A m.ros.length m.c, .int .i64 m.ticks, .slice m.sA m.spans.length m.sc, .slice m.wA m.wires.length m.wc]] w' fun e w'' => e = .returned (.tuple #[.pointer none, errV (planChk m.pl)]) ∧ Below w'.heap.size w' w'') := hid fun he w' hb => kern_new_bad w' m (HF1.out w' hb) (HM1.out w' hb) he
  have HNG : Hid (planChk m.pl = 0 → ∀ w', Below w1.heap.size w1 w' → Calls Tryz.prog 20 #[.agg #[.slice m.A m.ros.length m.c, .int .i64 m.ticks, .slice m.sA m.spans.length m.sc, .slice m.wA m.wires.length m.wc]] w' (KNew w' m.pl)) := hid fun he w' hb => new_run w' m (HF1.out w' hb) (HM1.out w' hb) he
  have HRN : Hid (planChk m.pl = 0 → ∀ w', Below w1.heap.size w1 w' → Calls Tryz.prog 25 #[.agg #[.slice m.A m.ros.length m.c, .int .i64 m.ticks, .slice m.sA m.spans.length m.sc, .slice m.wA m.wires.length m.wc]] w' (RNewd w' m)) := hid fun he w' hb => rnew_run w' m (HM1.out w' hb) he
  have HRL : Hid (planChk m.pl = 0 → ∀ w', Below w1.heap.size w1 w' → Calls Tryz.prog 28 #[.agg #[.slice m.A m.ros.length m.c, .int .i64 m.ticks, .slice m.sA m.spans.length m.sc, .slice m.wA m.wires.length m.wc], .string t] w' (RLoadGot w' m t)) := hid fun he w' hb => rload_any t ht w' m (HM1.out w' hb) he
  have HLG : Hid (planChk m.pl = 0 → ∀ w', Below w1.heap.size w1 w' → Calls Tryz.prog 22 #[.agg #[.slice m.A m.ros.length m.c, .int .i64 m.ticks, .slice m.sA m.spans.length m.sc, .slice m.wA m.wires.length m.wc], .string t] w' (SLoadOne w' m.pl t)) := hid fun he w' hb => (sload_any t ht w' m (HD1.out w' hb) (HF1.out w' hb) (HM1.out w' hb) he).mono fun e w'' h => sload_one h
  have HLB : Hid (planChk m.pl ≠ 0 → ∀ w', Below w1.heap.size w1 w' → Calls Tryz.prog 22 #[.agg #[.slice m.A m.ros.length m.c, .int .i64 m.ticks, .slice m.sA m.spans.length m.sc, .slice m.wA m.wires.length m.wc], .string t] w' fun e w'' => e = .returned (.tuple #[.pointer none, errV (planChk m.pl)]) ∧ Below w'.heap.size w' w'') := hid fun he w' hb => sload_bad t w' m (HF1.out w' hb) (HM1.out w' hb) he
  have HSV : Hid (planChk m.pl = 0 → ∀ w' kb M k (B : Int), B ≤ 100000000 → KOk m.pl k B → Below w1.heap.size w1 w' → KAt 145 215 147 w' kb M k → Calls Tryz.prog 21 #[.pointer (some ⟨kb, 0, none⟩), .agg #[.slice m.A m.ros.length m.c, .int .i64 m.ticks, .slice m.sA m.spans.length m.sc, .slice m.wA m.wires.length m.wc]] w' (SavedT k w')) := hid fun he w' kb M k B hB hk hb hka =>
    ssave_any (HF1.out w' hb) (HD1.out w' hb).pows hka hk (snap_ok (planChk_ok he) hk hB) (HM1.out w' hb) rfl he
  have HRS : Hid (planChk m.pl = 0 → ∀ w' kb M k (B : Int), B ≤ 100000000 → KOk m.pl k B → KAt 98 165 163 w' kb M k → Calls Tryz.prog 27 #[.pointer (some ⟨kb, 0, none⟩)] w' fun e w'' => ∃ T : ByteArray, e = .returned (.string T) ∧ T.data.toList = snapText k ∧ Below w'.heap.size w' w'') := hid fun he w' kb M k B hB hk hka => rsave_any hka (snap_ok (planChk_ok he) hk hB)
  have HER : Hid (∀ (e : Int) (w' : World), Below w1.heap.size w1 w' → Calls Tryz.prog 13 #[errV e, .int .i64 e] w' fun ev w'' => ev = .returned (.bool true) ∧ Below w'.heap.size w' w'') := hid fun e w' hb => error_same e w' (hg.new (hb1.trans (hb.mono hb1.size)))
  obtain ⟨nn, hnn⟩ : ∃ nn, m.ros.length = nn := ⟨_, rfl⟩
  obtain ⟨ns, hns⟩ : ∃ ns, m.spans.length = ns := ⟨_, rfl⟩
  obtain ⟨nw, hnw⟩ : ∃ nw, m.wires.length = nw := ⟨_, rfl⟩
  rw [hnn, hns, hnw] at hw1 hbox HRP HNB HNG HRN HRL HLG HLB HSV ⊢
  have HB1 := hid hb1
  have HEND : Hid (∀ w', Below w1.heap.size w1 w' → Below w.heap.size w w') := hid fun w' hb => hb1.trans (hb.mono hb1.size)
  have HBX : Hid (∀ w', Below w1.heap.size w1 w' → w'.cell? ⟨w.heap.size, 0, none⟩ = some (.slice m.A nn m.c) ∧ w'.cell? ⟨w.heap.size, 1, none⟩ = some (.int .i64 m.ticks) ∧ w'.cell? ⟨w.heap.size, 2, none⟩ = some (.slice m.sA ns m.sc) ∧ w'.cell? ⟨w.heap.size, 3, none⟩ = some (.slice m.wA nw m.wc) ∧ w.heap.size < w'.heap.size) := hid fun w' hb => by
    have h := (hb.block _ (blk_lt hbox)).trans hbox
    have x0 := blk_cell h 0
    have x1 := blk_cell h 1
    have x2 := blk_cell h 2
    have x3 := blk_cell h 3
    simp at x0 x1 x2 x3
    exact ⟨x0, x1, x2, x3, blk_lt h⟩
  clear hg hf hd hm hb1 hbox hnn hns hnw ht
  go_enter Tryz.func5, Tryz.ntmps5
  go_upto_region 2 with (go_at_call 12; rw [← hw1]; refine (HRP.out w1 (Below.refl _ _)).mono ?_; rintro e w2 ⟨rfl, hb2⟩; have HB2 := hid hb2; clear hb2)
  clear hw1 HRP
  obtain ⟨x0, x1, x2, x3, hlx⟩ := HBX.out w2 HB2.out
  by_cases he : planChk m.pl = 0
  rotate_left
  · have hnb := HNB.out he
    have hlb := HLB.out he
    have hE1 : (planChk m.pl == 0) = false := by simpa using he
    have hE2 : (planChk m.pl != 0) = true := by simpa using he
    generalize planChk m.pl = E at hnb hlb hE1 hE2 ⊢
    have HNB1 := hid hnb
    have HLB1 := hid hlb
    clear hnb hlb he HNB HNG HRN HRL HLG HLB HSV HRS
    go_upto_region 3 with (go_at_call 20; refine (HNB1.out w2 HB2.out).mono ?_; rintro e w3 ⟨rfl, hb3⟩; have HB3 := hid (HB2.out.trans (hb3.mono HB2.out.size)); clear hb3)
    clear x0 x1 x2 x3 hlx
    obtain ⟨x0, x1, x2, x3, hlx⟩ := HBX.out w3 HB3.out
    go_upto_region 4 with (go_at_call 13; refine (HER.out E w3 HB3.out).mono ?_; rintro e w4 ⟨rfl, hb4⟩; have HB4 := hid (HB3.out.trans (hb4.mono HB3.out.size)); clear hb4)
    clear x0 x1 x2 x3 hlx
    obtain ⟨x0, x1, x2, x3, hlx⟩ := HBX.out w4 HB4.out
    go_upto_region 21 with (go_at_call 22; refine (HLB1.out w4 HB4.out).mono ?_; rintro e w5 ⟨rfl, hb5⟩; have HB5 := hid (HB4.out.trans (hb5.mono HB4.out.size)); clear hb5)
    clear x0 x1 x2 x3 hlx
    go_wp2_with (go_at_call 13; refine (HER.out E w5 HB5.out).mono ?_; rintro e w6 ⟨rfl, hb6⟩; have HB6 := hid (HB5.out.trans (hb6.mono HB5.out.size)); clear hb6)
    exact snapTells_ret rfl rfl (HEND.out _ HB6.out)
  have hp := planChk_ok he
  have HP := hid hp
  have HE := hid he
  have HER0 : Hid (∀ w', Below w1.heap.size w1 w' → Calls Tryz.prog 13 #[.nilIface, .int .i64 0] w' fun ev w'' => ev = .returned (.bool true) ∧ Below w'.heap.size w' w'') := hid fun w' hb => by
    have h := HER.out 0 w' hb
    rw [errV_zero] at h
    exact h
  rw [he]
  have hng := HNG.out he
  unfold KNew at hng
  have HNG1 := hid hng
  clear hp he hng HNB HNG HLB
  go_upto_region 3 with (go_at_call 20; refine (HNG1.out w2 HB2.out).mono ?_; rintro e w3 ⟨kb, M, rfl, hk⟩)
  have HST3 : Hid (Stand w1 w3 [pkT kb m.pl M (kNew m.pl)]) := hid ((Stand.start HB2.out).addP hk)
  clear hk x0 x1 x2 x3 hlx HNG1
  obtain ⟨x0, x1, x2, x3, hlx⟩ := HBX.out w3 HST3.out.below
  go_upto_region 4 with (go_at_call 13; refine (HER0.out w3 HST3.out.below).mono ?_; rintro e w4 ⟨rfl, hb4⟩; have HST4 := hid (HST3.out.new hb4); clear hb4)
  clear x0 x1 x2 x3 hlx HST3
  obtain ⟨x0, x1, x2, x3, hlx⟩ := HBX.out w4 HST4.out.below
  have hrn := HRN.out HE.out w4 HST4.out.below
  unfold RNewd at hrn
  have HRN1 := hid hrn
  clear hrn
  go_upto_region 8 with (go_at_call 25; refine HRN1.out.mono ?_; rintro e w5 ⟨mb, N, rfl, hr, hNP⟩)
  have HST5 : Hid (Stand w1 w5 [pkT kb m.pl M (kNew m.pl), rlT mb m.pl N (kNew m.pl)]) := hid (HST4.out.addL hr (fun j hj => by rw [hNP] at hj; exact Nat.lt_of_lt_of_le (HPF.out j hj) HB1.out.size))
  clear hr hNP x0 x1 x2 x3 hlx HST4 HRN1
  go_wp2_with fail
  go_loopw [12] (fun v12 wr => ∃ (i : Nat) (M N : KM), i ≤ 100 ∧ v12 = .int .i64 i ∧ Stand w1 wr [pkT kb m.pl M (runK m.pl i), rlT mb m.pl N (runK m.pl i)]) (fun v12 _ => 100 - (intOf v12).toNat)
  case atStart => exact ⟨0, M, N, by omega, rfl, HST5.out⟩
  case round =>
    as_aux_lemma =>
    obtain ⟨wo, rfl⟩ : ∃ wo : World, wo = wr := ⟨_, rfl⟩
    obtain ⟨i, M1, N1, hi, rfl, hst⟩ := hrel
    have HST := hid hst
    clear hst HST5
    by_cases hin : (i : Int) < n ∧ i < 100
    · obtain ⟨hin, hi100⟩ := hin
      have HTA := hid (ptick_stand (i := 0) HST.out rfl HP.out (runK_ok HP.out i) (by omega))
      have HTB : Hid (∀ w' M', Stand w1 w' [pkT kb m.pl M' (runK m.pl (i + 1)), rlT mb m.pl N1 (runK m.pl i)] → Calls Tryz.prog 26 #[.pointer (some ⟨mb, 0, none⟩)] w' fun e w'' => ∃ N2, e = .returned (.agg #[.int .i64 (tick m.pl (runK m.pl i)).1.tick, .int .i64 (tick m.pl (runK m.pl i)).1.room, .int .i64 (tick m.pl (runK m.pl i)).1.pc, .int .i64 (tick m.pl (runK m.pl i)).1.what]) ∧ Stand w1 w'' [pkT kb m.pl M' (runK m.pl (i + 1)), rlT mb m.pl N2 (runK m.pl (i + 1))]) := hid fun w' M' h => ltick_stand (i := 1) h rfl HP.out (runK_ok HP.out i) (by omega)
      go_wp2_with (first
        | (go_at_call 26; refine (HTB.out _ _ HS6.out).mono ?_; rintro e w7 ⟨N2, rfl, hs7⟩; have HS7 := hid hs7; clear hs7)
        | (go_at_call 23; refine HTA.out.mono ?_; rintro e w6 ⟨M2, rfl, hs6⟩; have HS6 : Hid (Stand w1 w6 [pkT kb m.pl M2 (runK m.pl (i + 1)), rlT mb m.pl N1 (runK m.pl i)]) := hid hs6; clear hs6))
      go_roundw
      case rel => exact ⟨i + 1, M2, N2, by omega, by go_num, HS7.out⟩
      case measure => simp [intOf]; omega
    · obtain ⟨x0, x1, x2, x3, hlx⟩ := HBX.out wo HST.out.below
      have HS := hid (HSV.out HE.out wo kb M1 _ i (by omega) (runK_ok HP.out i) HST.out.below (HST.out.get (i := 0) rfl).here.1)
      rcases (show n ≤ (i : Int) ∨ ((i : Int) < n ∧ 100 ≤ i) by omega) with hd | ⟨hd, hd'⟩
      all_goals
        clear hin
        go_upto_region 14 with (go_at_call 21; refine HS.out.mono ?_; rintro e w8 ⟨T, rfl, hT, hb8⟩)
        have HST8 := hid (HST.out.new hb8)
        have HT := hid hT
        have HS2 := hid (HRS.out HE.out w8 mb N1 _ i (by omega) (runK_ok HP.out i) (HST8.out.get (i := 1) rfl).here.1)
        clear hT hb8 HS HST x0 x1 x2 x3 hlx
        go_upto_region 16 with (go_at_call 27; refine HS2.out.mono ?_; rintro e w9 ⟨T2, rfl, hT2, hb9⟩; have hTT : T2 = T := (by rw [bytesT_of hT2, bytesT_of HT.out]); subst hTT; have HB9 := hid (HST8.out.below.trans (hb9.mono HST8.out.below.size)); clear hT2 hb9 HT HST8 HS2)
        obtain ⟨x0, x1, x2, x3, hlx⟩ := HBX.out w9 HB9.out
        have hrl := HRL.out HE.out w9 HB9.out
        unfold RLoadGot at hrl
        have hlg := fun w' hb => HLG.out HE.out w' hb
        unfold SLoadOne at hlg
        have hok := @text_ok m.pl t.data.toList HP.out
        obtain ⟨F, hF⟩ : ∃ F, F = textE m.pl t.data.toList := ⟨_, rfl⟩
        obtain ⟨K, hK⟩ : ∃ K, K = loadK m.pl (tabOf m.pl t.data.toList) := ⟨_, rfl⟩
        rw [← hF, ← hK] at hrl hlg hok
        have HRL1 := hid hrl
        have HLG1 := hid hlg
        have HOK := hid hok
        clear hrl hlg hok hF hK HRL HLG
        go_upto_region 19 with fail
        go_wp2_with fail
        refine HRL1.out.mono ?_
        rintro e wa ⟨hba, ⟨hF0, lb, N2, rfl, hr, hNP⟩ | ⟨hF0, rfl⟩⟩
        rotate_left
        · have HBA := hid (HB9.out.trans (hba.mono HB9.out.size))
          have hF1 : (F != 0) = true := by simpa using hF0
          have hl := HLG1.out wa HBA.out
          have HL : Hid (Calls Tryz.prog 22 #[.agg #[.slice m.A nn m.c, .int .i64 m.ticks, .slice m.sA ns m.sc, .slice m.wA nw m.wc], .string t] wa fun e w' => e = .returned (.tuple #[.pointer none, errV F]) ∧ Below wa.heap.size wa w') := hid (hl.mono fun e w' h => by
            rcases h with ⟨h, _⟩ | ⟨_, h1, h2⟩
            · exact absurd h hF0
            · exact ⟨h1, h2⟩)
          clear hba hl HLG1 hF0 x0 x1 x2 x3 hlx
          obtain ⟨x0, x1, x2, x3, hlx⟩ := HBX.out wa HBA.out
          go_upto_region 21 with (go_at_call 22; refine HL.out.mono ?_; rintro e wb ⟨rfl, hbb⟩; have HBB := hid (HBA.out.trans (hbb.mono HBA.out.size)); clear hbb)
          clear x0 x1 x2 x3 hlx
          go_wp2_with (go_at_call 13; refine (HER.out F wb HBB.out).mono ?_; rintro e wc ⟨rfl, hbc⟩; have HBC := hid (HBB.out.trans (hbc.mono HBB.out.size)); clear hbc)
          exact snapTells_ret rfl rfl (HEND.out _ HBC.out)
        · have HKK := hid (HOK.out hF0)
          have HSTA : Hid (Stand w1 wa [rlT lb m.pl N2 K]) := hid ((Stand.start HB9.out).addL hr (fun j hj => by rw [hNP] at hj; exact Nat.lt_of_lt_of_le (HPF.out j hj) HB1.out.size))
          have hl := HLG1.out wa HSTA.out.below
          have HL : Hid (Calls Tryz.prog 22 #[.agg #[.slice m.A nn m.c, .int .i64 m.ticks, .slice m.sA ns m.sc, .slice m.wA nw m.wc], .string t] wa fun e w' => ∃ kb M, e = .returned (.tuple #[.pointer (some ⟨kb, 0, none⟩), .nilIface]) ∧ KRun wa w' kb m.pl M K) := hid (hl.mono fun e w' h => by
            rcases h with ⟨_, h⟩ | ⟨h, _⟩
            · exact h
            · exact absurd hF0 h)
          clear hba hl HLG1 hF0 x0 x1 x2 x3 hlx hr hNP HOK HRL1
          obtain ⟨x0, x1, x2, x3, hlx⟩ := HBX.out wa HSTA.out.below
          go_upto_region 21 with (go_at_call 22; refine HL.out.mono ?_; rintro e wb ⟨xb, M2, rfl, hx⟩)
          have HSTB : Hid (Stand w1 wb [rlT lb m.pl N2 K, pkT xb m.pl M2 K]) := hid (HSTA.out.addP hx)
          clear hx x0 x1 x2 x3 hlx HSTA HL
          go_upto_region 22 with (go_at_call 13; refine (HER0.out wb HSTB.out.below).mono ?_; rintro e wc ⟨rfl, hbc⟩; have HSTC := hid (HSTB.out.new hbc); clear hbc HSTB)
          go_wp2_with fail
          go_loopw [18] (fun v18 wr => ∃ (j : Nat) (N M : KM), j ≤ 40 ∧ v18 = .int .i64 j ∧ Stand w1 wr [rlT lb m.pl N (goS m.pl K j), pkT xb m.pl M (goS m.pl K j)]) (fun v18 _ => 40 - (intOf v18).toNat)
          case atStart => exact ⟨0, N2, M2, by omega, rfl, HSTC.out⟩
          case round =>
            obtain ⟨wp, rfl⟩ : ∃ wp : World, wp = wr := ⟨_, rfl⟩
            obtain ⟨j, N3, M3, hj, rfl, hst⟩ := hrel
            have HST := hid hst
            clear hst HSTC
            have HKJ := hid (goS_ok HP.out HKK.out j)
            by_cases hj40 : j < 40
            · obtain ⟨ev, hev⟩ : ∃ ev, ev = (tick m.pl (goS m.pl K j)).1 := ⟨_, rfl⟩
              have HTA : Hid (Calls Tryz.prog 23 #[.pointer (some ⟨xb, 0, none⟩)] wp fun e w' => ∃ M', e = .returned (.agg #[.int .i64 ev.tick, .int .i64 ev.room, .int .i64 ev.pc, .int .i64 ev.what]) ∧ Stand w1 w' [rlT lb m.pl N3 (goS m.pl K j), pkT xb m.pl M' (goS m.pl K (j + 1))]) := hid (by rw [hev]; exact ptick_stand (i := 1) HST.out rfl HP.out HKJ.out (by omega))
              have HTB : Hid (∀ w' M', Stand w1 w' [rlT lb m.pl N3 (goS m.pl K j), pkT xb m.pl M' (goS m.pl K (j + 1))] → Calls Tryz.prog 26 #[.pointer (some ⟨lb, 0, none⟩)] w' fun e w'' => ∃ N4, e = .returned (.agg #[.int .i64 ev.tick, .int .i64 ev.room, .int .i64 ev.pc, .int .i64 ev.what]) ∧ Stand w1 w'' [rlT lb m.pl N4 (goS m.pl K (j + 1)), pkT xb m.pl M' (goS m.pl K (j + 1))]) := hid fun w' M' h => by rw [hev]; exact ltick_stand (i := 0) h rfl HP.out HKJ.out (by omega)
              have hne := event_neq ev
              obtain ⟨xt, xr, xp, xw⟩ := ev
              simp only [] at HTA HTB hne
              clear hev
              go_wp2_with (first
                | (go_at_call 26; refine (HTB.out _ _ HS6.out).mono ?_; rintro e wq ⟨N4, rfl, hs7⟩; have HS7 := hid hs7; clear hs7)
                | (go_at_call 23; refine HTA.out.mono ?_; rintro e ws ⟨M4, rfl, hs6⟩; have HS6 := hid hs6; clear hs6))
              go_roundw
              case rel => exact ⟨j + 1, N4, M4, by omega, by go_num, HS7.out⟩
              case measure => simp [intOf]; omega
            · obtain rfl : j = 40 := by omega
              obtain ⟨x0, x1, x2, x3, hlx⟩ := HBX.out wp HST.out.below
              have HS := hid (HSV.out HE.out wp xb M3 _ _ (by omega) HKJ.out HST.out.below (HST.out.get (i := 1) rfl).here.1)
              go_upto_region 30 with (go_at_call 21; refine HS.out.mono ?_; rintro e wu ⟨Ta, rfl, hTa, hbu⟩)
              have HSTU := hid (HST.out.new hbu)
              have HTa := hid hTa
              have HS2 := hid (HRS.out HE.out wu lb N3 _ _ (by omega) HKJ.out (HSTU.out.get (i := 0) rfl).here.1)
              clear hTa hbu HS HST x0 x1 x2 x3 hlx
              go_wp2_with (go_at_call 27; refine HS2.out.mono ?_; rintro e wv ⟨Tb, rfl, hTb, hbv⟩; have hTT : Tb = Ta := (by rw [bytesT_of hTb, bytesT_of HTa.out]); subst hTT; have HBV := hid (HSTU.out.below.trans (hbv.mono HSTU.out.below.size)); clear hTb hbv)
              exact snapTells_ret rfl rfl (HEND.out _ HBV.out)
end Go.Proofs.YtldllmhgofacbaaGreatDoor
