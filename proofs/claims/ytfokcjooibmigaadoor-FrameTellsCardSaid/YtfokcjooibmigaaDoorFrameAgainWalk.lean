/- The walk of framelaw1.FrameAgain: it returns true at every input. -/
import Derived.Test.YtfokcjooibmigaaDoorShares
import Derived.Test.YtfokcjooibmigaaDoorGapLaw
import Derived.Test.YtfokcjooibmigaaDoorRingsUse
import Derived.Test.YtfokcjooibmigaaDoorTold
import Derived.Deep.DeepCutAuto
namespace Go.Proofs.YtfokcjooibmigaaDoor
open Go.RowKit
set_option maxRecDepth 100000

def aSpan : List Span := [⟨1, 3, 2⟩]
theorem a_six : whoOf 4 aSpan 6 = (2, 0) := by decide
theorem a_three : whoOf 4 aSpan 3 = (-1, 0) := by decide
theorem who_good {T : Int} {l : List Span} {t : Int} (he : (frameChk T l).2 = 0) (ht : 0 ≤ t) : whoOf T l t = (turnAt l (t % T), 0) := by
  unfold whoOf; rw [if_neg (by simp [he]), if_neg (by omega)]
theorem who_n (ticks t : Int) (A : Option Addr) (n c : Nat) (l : List Span) (w : World) (hn : l.length = n) (hs : Sl w A 3 n (l.flatMap Span.cells)) (hsw : SlW A c n) (h4 : t ≤ 9223372036854775807) :
    Calls Tryd.prog 32 #[.int .i64 ticks, .slice A n c, .int .i64 t] w (Tell w (whoOf ticks l t)) := by subst hn; exact who_any ticks t A c l w hs hsw h4
theorem gap_n (ticks room : Int) (A : Option Addr) (n c : Nat) (l : List Span) (w : World) (hn : l.length = n) (hs : Sl w A 3 n (l.flatMap Span.cells)) (hsw : SlW A c n) :
    Calls Tryd.prog 34 #[.int .i64 ticks, .slice A n c, .int .i64 room] w (Tell w (gapOf ticks l room)) := by subst hn; exact gap_any ticks room A c l w hs hsw
theorem shares_ok (ticks : Int) (A : Option Addr) (n c : Nat) (l : List Span) (w : World) (hn : l.length = n) (hs : Sl w A 3 n (l.flatMap Span.cells)) (hsw : SlW A c n) (he : (frameChk ticks l).2 = 0) :
    Calls Tryd.prog 33 #[.int .i64 ticks, .slice A n c] w fun e w' => ∃ b off cap, e = .returned (.tuple #[.slice (some ⟨b, off, none⟩) 5 cap, .nilIface]) ∧ b < w'.heap.size ∧
      (∀ (w2 : World), Below w'.heap.size w' w2 → ∀ i, i < 5 → w2.cell? ⟨b, off + i, none⟩ = some (.int .i64 (shTo l l.length i))) ∧ Below w.heap.size w w' := by
  subst hn
  refine (shares_any ticks A c l w hs hsw).mono ?_
  rw [show sharesOf ticks l = (shl (shTo l l.length), 0) by simp [sharesOf, he]]
  rintro e w1 ⟨B, cap, rfl, hr, _, hb⟩
  obtain ⟨b, off, rfl, hbl, hx⟩ := Row.five (l := shl (shTo l l.length)) hr
  refine ⟨b, off, cap, rfl, hbl, fun w2 h2 i hi => ?_, hb⟩
  rw [hx w2 h2 i hi, shl_get _ hi]

/-- Sums of shares. -/
def sumTo (f : Nat → Int) : Nat → Int
  | 0 => 0
  | k + 1 => sumTo f k + f k
def hitLt (l : List Span) (T k : Nat) : Nat → Bool := fun t => decide (0 ≤ turnAt l ((t : Int) % (T : Int)) ∧ turnAt l ((t : Int) % (T : Int)) < k)
theorem sum_cnt (l : List Span) (T : Nat) : ∀ k, sumTo (fun r => (cntH (hitB l T r) 0 T : Nat)) k = (cntH (hitLt l T k) 0 T : Nat)
  | 0 => by
    have h0 : ∀ m, cntH (hitLt l T 0) 0 m = 0 := by
      intro m
      induction m with
      | zero => rfl
      | succ m ih =>
        rw [cntH_succ, ih]
        have : hitLt l T 0 (0 + m) = false := decide_eq_false (by omega)
        rw [this]; rfl
    rw [h0]; rfl
  | k + 1 => by
    have h := cntH_sum (h := hitLt l T (k + 1)) (g := hitLt l T k) (p := hitB l T k) (m := T) (fun t _ => by
      unfold hitLt hitB
      generalize turnAt l ((t : Int) % (T : Int)) = x
      rcases Int.lt_trichotomy x k with h | h | h
      · by_cases h0 : 0 ≤ x
        · rw [decide_eq_true (by omega), decide_eq_true (by omega), decide_eq_false (by omega)]; rfl
        · rw [decide_eq_false (by omega), decide_eq_false (by omega), decide_eq_false (by omega)]; rfl
      · rw [decide_eq_true (by omega), decide_eq_false (by omega), decide_eq_true (by omega)]; rfl
      · rw [decide_eq_false (by omega), decide_eq_false (by omega), decide_eq_false (by omega)]; rfl)
    show sumTo _ k + ((cntH (hitB l T k) 0 T : Nat) : Int) = _
    rw [sum_cnt l T k, h]; omega
theorem sum_bd {T : Nat} {l : List Span} (he : (frameChk T l).2 = 0) (k : Nat) : 0 ≤ sumTo (shTo l l.length) k ∧ sumTo (shTo l l.length) k ≤ T := by
  have h1 : shTo l l.length = fun r : Nat => ((cntH (hitB l T r) 0 T : Nat) : Int) := funext fun r => shares_cnt he r
  rw [h1, sum_cnt]
  have := cntH_le (hitLt l T k) 0 T
  omega
theorem gap_zero {T : Nat} {l : List Span} {r : Nat} (he : (frameChk T l).2 = 0) (hr : r < 5) (hT : 0 < T) (hc : cntH (hitB l T r) 0 T = 0) : gapOf T l r = (0, 5) := by
  unfold gapOf
  rw [if_neg (by simp [he]), if_neg (by rw [roomB_false]; omega), show (2 * (T : Int)).toNat = 2 * T by omega, if_pos ((gap_none hT).2 hc)]
theorem gap_pos {T : Nat} {l : List Span} {r : Nat} (he : (frameChk T l).2 = 0) (hr : r < 5) (hT : 0 < T) (hc : cntH (hitB l T r) 0 T ≠ 0) : ∃ g, gapOf T l r = (g, 0) ∧ IsGap (hitB l T r) g := by
  refine ⟨_, ?_, gap_is hT (by omega)⟩
  unfold gapOf
  rw [if_neg (by simp [he]), if_neg (by rw [roomB_false]; omega), show (2 * (T : Int)).toNat = 2 * T by omega, if_neg (fun h => hc ((gap_none hT).1 h))]

set_option maxHeartbeats 8000000 in
theorem frameAgain_walk {w : World} (hg : Handle w) (ticks : Int) (A : Option Addr) (c : Nat) (l : List Span) (hs : Sl w A 3 l.length (l.flatMap Span.cells)) (hsw : SlW A c l.length) (_ok : ∀ y ∈ l, y.Ok) (t r : Int) :
    Calls Tryd.prog 6 #[.int .i64 ticks, .slice A l.length c, .int .i64 t, .int .i64 r] w fun e w' => e = .returned (.bool true) ∧ Below w.heap.size w w' := by
  have HG := hid hg
  obtain ⟨n, hn⟩ : ∃ n, n = l.length := ⟨_, rfl⟩
  rw [← hn] at hs hsw ⊢
  have HN := hid hn.symm
  have HS := hid hs
  have HW := hid hsw
  clear hg hs hsw _ok hn
  go_enter Tryd.func6, Tryd.ntmps6
  go_wp2_with fail
  obtain ⟨w0, hw0⟩ : ∃ w0, w0 = w.alloc (Obj.cells #[.int .i64 1, .int .i64 3, .int .i64 2] 69) := ⟨_, rfl⟩
  rw [← hw0]
  have HB0 : Hid (Below w.heap.size w w0) := by rw [hw0]; exact (Below.refl _ _).alloc (Nat.le_refl _) _
  have hso : Sl w0 (some ⟨w.heap.size, 0, none⟩) 3 1 (aSpan.flatMap Span.cells) := by
    rw [hw0]
    exact ⟨rfl, fun _ => ⟨_, 0, rfl, by simp, fun j u hu => by rw [Nat.zero_add, blk_cell (heap_alloc_new w _) j]; simpa [aSpan, Span.cells] using hu⟩⟩
  have hso1 : SlW (some ⟨w.heap.size, 0, none⟩) 1 1 := ⟨by omega, by simp [maxLen], by simp⟩
  have HSO := hid hso
  have HSW1 := hid hso1
  clear hw0 hso hso1
  refine (who_n 4 6 _ 1 1 aSpan w0 rfl HSO.out HSW1.out (by omega)).mono ?_
  rw [a_six]
  rintro e w1 ⟨rfl, hb1⟩
  rw [errV_zero]
  have HB1 := hid (HB0.out.trans (hb1.mono HB0.out.size))
  have HSO1 := hid (HSO.out.new hb1)
  clear hb1
  go_upto_region 4 with (go_at_call 32; refine (who_n 4 3 _ 1 1 aSpan w1 rfl HSO1.out HSW1.out (by omega)).mono ?_; rw [a_three]; rintro e w2 ⟨rfl, hb2⟩; rw [errV_zero]; have HB2 := hid (HB1.out.trans (hb2.mono HB1.out.size)); clear hb2)
  have HS2 := hid (HS.out.new HB2.out)
  clear HB0 HSO HSW1 HB1 HSO1 HS
  by_cases t0 : t < 0
  · go_wp2_with fail
    go_ret
    exact ⟨rfl, HB2.out⟩
  by_cases t1 : 1000000 < t
  · go_wp2_with fail
    go_ret
    exact ⟨rfl, HB2.out⟩
  obtain ⟨t, rfl⟩ : ∃ j : Nat, t = j := ⟨t.toNat, by omega⟩
  by_cases he : (frameChk ticks l).2 = 0
  · obtain ⟨b1, b2, b3⟩ := frameChk_ticks he
    obtain ⟨T, rfl⟩ : ∃ T : Nat, ticks = T := ⟨ticks.toNat, by omega⟩
    have hT : 0 < T := by omega
    have HE := hid he
    have ha := who_good (t := (t : Int)) he (by omega)
    have hb : whoOf T l ((t : Int) + T) = (turnAt l ((t : Int) % (T : Int)), 0) := by rw [who_good he (by omega), Int.add_emod_right]
    generalize turnAt l ((t : Int) % (T : Int)) = a at ha hb
    have HWA := hid ha
    have HWB := hid hb
    have HSUM := hid (fun k => sum_bd he k)
    have HSH := hid (fun r => shares_cnt he r)
    have hbd := fun r => shTo_bd (frOk_of he) r l.length (Nat.le_refl _)
    have HBD := hid hbd
    have e1 : IntKind.i64.wrap ((t : Int) + T) = t + T := IntWalk.i64_in _ (by omega)
    clear he ha hb hbd b3
    go_wp2_with (first
      | (go_at_call 33; refine (shares_ok T A n c l _ HN.out HS4.out HW.out HE.out).mono ?_; rintro e w5 ⟨bo, off, cap, rfl, hbo, hx, hb5⟩; have HX := hid hx; have HB5 := hid (HB4.out.trans (hb5.mono HB4.out.size)); have HS5 := hid (HS4.out.new hb5); clear hx hb5 hbo)
      | (go_at_call 32; refine (who_n T ((t : Int) + T) A n c l _ HN.out HS3.out HW.out (by omega)).mono ?_; rw [HWB.out]; rintro e w4 ⟨rfl, hb4⟩; rw [errV_zero]; have HB4 := hid (HB3.out.trans (hb4.mono HB3.out.size)); have HS4 := hid (HS3.out.new hb4); clear hb4)
      | (go_at_call 32; refine (who_n T t A n c l _ HN.out HS2.out HW.out (by omega)).mono ?_; rw [HWA.out]; rintro e w3 ⟨rfl, hb3⟩; rw [errV_zero]; have HB3 := hid (HB2.out.trans (hb3.mono HB2.out.size)); have HS3 := hid (HS2.out.new hb3); clear hb3))
    have hf : ∃ f : Nat → Int, f = shTo l l.length := ⟨_, rfl⟩
    obtain ⟨f, hf⟩ := hf
    rw [← hf] at HX HSUM HSH HBD
    clear hf
    go_loopw [20, 21] (fun v20 v21 wr => ∃ k : Nat, k ≤ 5 ∧ v21 = .int .i64 k ∧ v20 = .int .i64 (sumTo f k) ∧ Below w5.heap.size w5 wr) (fun _ v21 _ => 5 - (intOf v21).toNat)
    case atStart => exact ⟨0, by omega, rfl, rfl, Below.refl _ _⟩
    case round =>
      obtain ⟨k, hk, rfl, rfl, hbw⟩ := hrel
      obtain ⟨s0, s1⟩ := HSUM.out k
      have HBW := hid hbw
      by_cases hk5 : k < 5
      · have hc := HX.out _ hbw k hk5
        obtain ⟨f0, f1⟩ := HBD.out k
        have hsu : sumTo f (k + 1) = sumTo f k + f k := rfl
        have HSU := hid hsu
        generalize f k = x at hc f0 f1 HSU
        generalize sumTo f k = S at s0 s1 HSU ⊢
        have e2 : IntKind.i64.wrap (S + x) = S + x := IntWalk.i64_in _ (by omega)
        clear hbw hsu
        go_wp2_with fail
        go_roundw
        case rel => exact ⟨k + 1, by omega, by go_num, by rw [HSU.out], HBW.out⟩
        case measure => simp [intOf]; omega
      · obtain rfl : k = 5 := by omega
        generalize sumTo f 5 = S at s0 s1 ⊢
        have HB6 := hid (HB5.out.trans (hbw.mono HB5.out.size))
        have HS6 := hid (HS5.out.new hbw)
        clear hbw
        by_cases r0 : r < 0
        · go_wp2_with fail
          go_ret
          exact ⟨rfl, HB6.out⟩
        by_cases r4 : 4 < r
        · go_wp2_with fail
          go_ret
          exact ⟨rfl, HB6.out⟩
        obtain ⟨r, rfl⟩ : ∃ j : Nat, r = j := ⟨r.toNat, by omega⟩
        have hr5 : r < 5 := by omega
        have hcr := HX.out _ HBW.out r hr5
        have hsr := HSH.out r
        by_cases hc : cntH (hitB l T r) 0 T = 0
        · have HGP := hid (gap_zero HE.out hr5 hT hc)
          have hfr : f r = 0 := by rw [hsr, hc]; rfl
          have HFR := hid hfr
          clear hcr hsr hc hfr
          go_wp2_with (first
            | (go_at_call 12; refine (error_same 5 _ (HG.out.new HB7.out)).mono ?_; rintro e w7 ⟨rfl, hb7⟩; have HB8 := hid (HB7.out.trans (hb7.mono HB7.out.size)); clear hb7)
            | (go_at_call 34; refine (gap_n T r A n c l _ HN.out HS6.out HW.out).mono ?_; rw [HGP.out]; rintro e w6 ⟨rfl, hb6⟩; rw [show errV ((0 : Int), (5 : Int)).2 = errV 5 from rfl]; have hcr := HX.out _ (HBW.out.trans (hb6.mono HBW.out.size)) r hr5; rw [HFR.out] at hcr; have HB7 := hid (HB6.out.trans (hb6.mono HB6.out.size)); clear hb6))
          go_ret
          exact ⟨rfl, HB8.out⟩
        · obtain ⟨g, hg, hgap⟩ := gap_pos HE.out hr5 hT hc
          have HGP := hid hg
          have HGAP := hid hgap
          obtain ⟨g1, g2⟩ := hgap.bounds (hitB_again l T r) hT
          have hy : ¬ f r = 0 := by rw [hsr]; omega
          obtain ⟨y, hfy⟩ : ∃ y, f r = y := ⟨_, rfl⟩
          rw [hfy] at hy
          have HFR := hid hfy
          clear hcr hsr hc hfy hg hgap
          go_wp2_with (go_at_call 34; refine (gap_n T r A n c l _ HN.out HS6.out HW.out).mono ?_; rw [HGP.out]; rintro e w6 ⟨rfl, hb6⟩; rw [errV_zero]; have hcr := HX.out _ (HBW.out.trans (hb6.mono HBW.out.size)) r hr5; rw [HFR.out] at hcr; have HB7 := hid (HB6.out.trans (hb6.mono HB6.out.size)); have HS7 := hid (HS6.out.new hb6); clear hb6)
          go_loopw [24] (fun v24 wq => ∃ k : Nat, (k : Int) ≤ g ∧ v24 = .int .i64 k ∧ (∀ i, i < k → hitB l T r (t + i) = false) ∧ Below w6.heap.size w6 wq) (fun v24 _ => g.toNat - (intOf v24).toNat)
          case atStart => exact ⟨0, by omega, rfl, fun i h => absurd h (by omega), Below.refl _ _⟩
          case round =>
            obtain ⟨k, hk, rfl, hno, hbq⟩ := hrel
            have HNO := hid hno
            have HBQ := hid hbq
            clear hno hbq
            by_cases hkg : (k : Int) < g
            · have e3 : IntKind.i64.wrap ((t : Int) + k) = t + k := IntWalk.i64_in _ (by omega)
              have hw := who_good (t := (t : Int) + k) HE.out (by omega)
              have hhit : hitB l T r (t + k) = decide (turnAt l (((t : Int) + k) % (T : Int)) = r) := by unfold hitB; rw [Int.natCast_add]
              generalize turnAt l (((t : Int) + k) % (T : Int)) = x at hw hhit
              have HWK := hid hw
              have HHIT := hid hhit
              have HSQ := hid (HS7.out.new HBQ.out)
              clear hw hhit
              by_cases hx : x = r
              · subst hx
                go_wp2_with (go_at_call 32; refine (who_n T ((t : Int) + k) A n c l _ HN.out HSQ.out HW.out (by omega)).mono ?_; rw [HWK.out]; rintro e w8 ⟨rfl, hb8⟩; rw [errV_zero]; have HB8 := hid hb8; clear hb8)
                go_ret
                exact ⟨rfl, (HB7.out.trans (HBQ.out.mono HB7.out.size)).trans (HB8.out.mono (by have := HB7.out.size; have := HBQ.out.size; omega))⟩
              · go_wp2_with (go_at_call 32; refine (who_n T ((t : Int) + k) A n c l _ HN.out HSQ.out HW.out (by omega)).mono ?_; rw [HWK.out]; rintro e w8 ⟨rfl, hb8⟩; rw [errV_zero]; have HB8 := hid hb8; clear hb8)
                go_roundw
                case rel => exact ⟨k + 1, by omega, by go_num, fun i hi => by
                  by_cases e : i = k
                  · subst e; rw [HHIT.out]; exact decide_eq_false hx
                  · exact HNO.out i (by omega), HBQ.out.trans (HB8.out.mono HBQ.out.size)⟩
                case measure => simp [intOf]; omega
            · obtain ⟨k0, h1, h2⟩ := HGAP.out.hit (hitB_again l T r) hT t
              have h3 := HNO.out k0 (by omega)
              rw [h2] at h3
              cases h3
  · have hv := errV_pos he
    have hw : whoOf ticks l t = (0, (frameChk ticks l).2) := by unfold whoOf; rw [if_pos he]
    have HV := hid hv
    have HWB := hid hw
    clear he hv hw
    go_wp2_with (go_at_call 32; refine (who_n ticks t A n c l _ HN.out HS2.out HW.out (by omega)).mono ?_; rw [HWB.out]; rintro e w3 ⟨rfl, hb3⟩; rw [HV.out])
    go_ret
    exact ⟨rfl, HB2.out.trans (hb3.mono HB2.out.size)⟩
end Go.Proofs.YtfokcjooibmigaaDoor
