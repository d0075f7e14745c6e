/- The walk of framelaw3.RunTicks: it returns true at every input. Conditions: the tables and variables that the row lists. -/
import Derived.Test.YthdmgighblhmhaaGreatDoorRunRun
import Derived.Test.YthdmgighblhmhaaGreatDoorRunBeginsWalk
import Derived.Test.YthdmgighblhmhaaGreatDoorRunTicksLaw
import Derived.Test.YthdmgighblhmhaaGreatDoorRTextU
import Derived.Test.YthdmgighblhmhaaGreatDoorDeskU
import Derived.BigQuiet
namespace Go.Proofs.YthdmgighblhmhaaGreatDoor
open Go.RowKit
set_option maxRecDepth 100000

def DigGot (n : Nat) (w : World) (e : Ending) (w' : World) : Prop := ∃ D : ByteArray, e = .returned (.string D) ∧ D.data.toList = Lib.itoa (n : Int) ∧ D.size ≤ 4 ∧ Below w.heap.size w w'
theorem dig_got (n : Nat) (h : n ≤ 100) (w : World) : Calls Tryz.prog 11 #[.int .i64 n] w (DigGot n w) := by
  refine (rdigits_any n (by omega) w).mono ?_
  rintro e w' ⟨rfl, hb⟩
  refine ⟨_, rfl, (itoa_nat n).symm, ?_, hb⟩
  rw [Lib.size_eq]
  show (Lib.decDigits n).length ≤ 4
  rw [← itoa_nat]
  exact itoa_le (k := 3) (by omega) (by omega)
theorem app_list (a b : ByteArray) : (a ++ b).data.toList = a.data.toList ++ b.data.toList := by rw [ByteArray.data_append, Array.toList_append]
theorem texta_is {D : ByteArray} {n : Nat} (h : D.data.toList = Lib.itoa (n : Int)) : ((⟨#[103, 111, 32]⟩ : ByteArray) ++ D ++ ⟨#[10]⟩ ++ ⟨askT.toArray⟩).data.toList = textA n := by
  rw [app_list, app_list, app_list]
  have := go_text D.data.toList n h askL
  rw [← ask_is] at this
  exact this
theorem textb_is {D E : ByteArray} {n m : Nat} (h : D.data.toList = Lib.itoa (n : Int)) (h2 : E.data.toList = Lib.itoa (m : Int)) : ((⟨#[103, 111, 32]⟩ : ByteArray) ++ D ++ ⟨#[10, 103, 111, 32]⟩ ++ E ++ ⟨#[10]⟩ ++ ⟨askT.toArray⟩).data.toList = textB n m := by
  rw [app_list, app_list, app_list, app_list, app_list]
  have h3 := go_text E.data.toList m h2 askL
  have h4 := go_text D.data.toList n h (goL m :: askL)
  rw [← h3, ← ask_is] at h4
  unfold textB
  rw [← h4]
  show [103, 111, 32] ++ D.data.toList ++ [10, 103, 111, 32] ++ E.data.toList ++ [10] ++ askT = _
  simp
theorem textc_is {S : ByteArray} {n : Nat} (h : S.data.toList = lnT (List.replicate n tickW)) : (S ++ ⟨askT.toArray⟩).data.toList = textC n := by
  rw [app_list, h]
  unfold textC
  rw [lnT_append, ← ask_is]
theorem app_size (a b : ByteArray) : (a ++ b).size = a.size + b.size := ByteArray.size_append
theorem texta_sz {D : ByteArray} (h : D.size ≤ 4) : ((⟨#[103, 111, 32]⟩ : ByteArray) ++ D ++ ⟨#[10]⟩ ++ ⟨askT.toArray⟩).size ≤ 3000 := by
  rw [app_size, app_size, app_size]
  have e1 : (⟨#[103, 111, 32]⟩ : ByteArray).size = 3 := rfl
  have e2 : (⟨#[10]⟩ : ByteArray).size = 1 := rfl
  have e3 : (⟨askT.toArray⟩ : ByteArray).size = 28 := rfl
  omega
theorem textb_sz {D E : ByteArray} (h : D.size ≤ 4) (h2 : E.size ≤ 4) : ((⟨#[103, 111, 32]⟩ : ByteArray) ++ D ++ ⟨#[10, 103, 111, 32]⟩ ++ E ++ ⟨#[10]⟩ ++ ⟨askT.toArray⟩).size ≤ 3000 := by
  rw [app_size, app_size, app_size, app_size, app_size]
  have e1 : (⟨#[103, 111, 32]⟩ : ByteArray).size = 3 := rfl
  have e2 : (⟨#[10]⟩ : ByteArray).size = 1 := rfl
  have e3 : (⟨askT.toArray⟩ : ByteArray).size = 28 := rfl
  have e4 : (⟨#[10, 103, 111, 32]⟩ : ByteArray).size = 4 := rfl
  omega
theorem textc_sz {S : ByteArray} (h : S.size ≤ 500) : (S ++ ⟨askT.toArray⟩).size ≤ 3000 := by
  rw [app_size]
  have e3 : (⟨askT.toArray⟩ : ByteArray).size = 28 := rfl
  omega
theorem run_size {s T : ByteArray} (h : T.data.toList = runA s.data.toList) (hs : s.size ≤ 3000) : T.size ≤ 1099511627776 := by
  have h1 := linesOf_few s.data.toList
  rw [← Lib.size_eq] at h1
  have h2 := sessA_len ((linesOf s.data.toList).map bare) (kNew_ok runPl_ok) (by rw [List.length_map]; omega)
  rw [List.length_map] at h2
  have h3 : (runA s.data.toList).length = (sessA (kNew runPl) ((linesOf s.data.toList).map bare)).length := rfl
  rw [Lib.size_eq, h]
  omega
theorem cut_n (s : ByteArray) {P : List (List UInt8)} {n : Nat} (h : cutA 10 [] s.data.toList = P) (hn : P.length = n) (hs : s.size ≤ 1099511627776) (w : World) :
    Calls Tryz.prog 7 #[.string s, .int .u8 10] w fun e w' => ∃ A cap, e = .returned (.slice A n cap) ∧ Row w' 9 1 A n cap (P.map txt) ∧ Below w.heap.size w w' := by
  subst h
  subst hn
  refine (cut_any s 10 w hs).mono ?_
  rintro e w' ⟨A, cap, rfl, h1, _, h2⟩
  exact ⟨A, cap, rfl, h1, h2⟩
theorem z_get {es l : List (List UInt8)} {c : Nat} (h : es.length = c) (i : Nat) : (es ++ l)[c + i]? = l[i]? := by
  rw [List.getElem?_append_right (by omega)]
  congr 1
  omega
/-- A text of a row. -/
theorem row_text {w : World} {A : Option Addr} {n c : Nat} {P : List (List UInt8)} (h : Row w 9 1 A n c (P.map txt)) {i : Nat} {s : List UInt8} (hs : P[i]? = some s) : ∃ b off, A = some ⟨b, off, none⟩ ∧ b < w.heap.size ∧ i < n ∧ w.cell? ⟨b, off + i, none⟩ = some (.string ⟨s.toArray⟩) := by
  have hl := h.sl.1
  rw [List.length_map] at hl
  have hi := (List.getElem?_eq_some_iff.1 hs).1
  obtain ⟨b, off, e, hb, hx⟩ := h.sl.2 (by omega)
  exact ⟨b, off, e, hb, by omega, hx i _ (by rw [List.getElem?_map, hs]; rfl)⟩
set_option maxHeartbeats 8000000 in
theorem runTicks_walk {w : World} (hg : Handle w) (hf : Forms w) (_ : Names w) (hd : Desk w) (hu : Unread w) (n m : Int) :
    Calls Tryz.prog 5 #[.int .i64 n, .int .i64 m] w fun e w' => e = .returned (.bool true) ∧ Below w.heap.size w w' := by
  have HRUN : Hid (∀ (s : ByteArray) (w' : World), s.size ≤ 3000 → Below w.heap.size w w' → Calls Tryz.prog 6 #[.string s] w' (RunGot s w')) := hid fun s w' hs hb => run_got (hg.new hb) (hf.new hb) (hd.new hb) (hu.new hb) s hs
  unfold RunGot at HRUN
  clear hg hf hd hu
  by_cases hgood : 0 ≤ n ∧ n ≤ 60 ∧ 0 ≤ m ∧ m ≤ 40
  rotate_left
  · have hbad : n < 0 ∨ (0 ≤ n ∧ 60 < n) ∨ (0 ≤ n ∧ n ≤ 60 ∧ m < 0) ∨ (0 ≤ n ∧ n ≤ 60 ∧ 0 ≤ m ∧ 40 < m) := by omega
    have HR : Hid (Calls Tryz.prog 6 #[.string ⟨#[103, 111, 32, 49, 48, 49, 10]⟩] w fun e w' => e = .returned (.string ⟨#[69, 114, 114, 82, 97, 110, 103, 101, 10]⟩) ∧ Below w.heap.size w w') := hid ((HRUN.out ⟨#[103, 111, 32, 49, 48, 49, 10]⟩ w (by decide) (Below.refl _ _)).mono fun e w' h => by
      obtain ⟨T, rfl, hT, hb⟩ := h
      exact ⟨by rw [bytes_is (hT.trans range_runs)], hb⟩)
    clear hgood HRUN
    rcases hbad with h1 | ⟨h1, h2⟩ | ⟨h1, h2, h3⟩ | ⟨h1, h2, h3, h4⟩
    all_goals
      go_enter Tryz.func5, Tryz.ntmps5
      go_wp2_with (go_at_call 6; refine HR.out.mono ?_; rintro e w1 ⟨rfl, hb1⟩; have HB1 := hid hb1; clear hb1)
      go_ret
      exact ⟨rfl, HB1.out⟩
  obtain ⟨a, rfl⟩ : ∃ a : Nat, n = a := ⟨n.toNat, by omega⟩
  obtain ⟨b, rfl⟩ : ∃ b : Nat, m = b := ⟨m.toNat, by omega⟩
  have ha : (a : Int) ≤ 60 := by omega
  have hb : (b : Int) ≤ 40 := by omega
  have ha0 : (0 : Int) ≤ a := by omega
  have hb0 : (0 : Int) ≤ b := by omega
  obtain ⟨c, hc⟩ : ∃ c : Nat, c = a + b := ⟨_, rfl⟩
  have hab : (a : Int) + b = c := by omega
  have HC := hid hc
  have hc100 : c ≤ 100 := by omega
  clear hc hgood
  go_enter Tryz.func5, Tryz.ntmps5
  go_upto_region 5 with fail
  go_upto_region 6 with (first
    | (go_at_call 6; refine (HRUN.out _ w1 (texta_sz HDL.out) HB1.out).mono ?_; rintro e w2 ⟨X, rfl, hX, hb2⟩; have HXL := hid (run_size hX (texta_sz HDL.out)); have HX := hid (hX.trans (congrArg runA (texta_is HD.out))); have HB2 := hid (HB1.out.trans (hb2.mono HB1.out.size)); clear hX hb2)
    | (go_at_call 11; refine (dig_got c hc100 w).mono ?_; rintro e w1 ⟨D, rfl, hD, hDl, hb1⟩; have HDL := hid hDl; have HD := hid hD; have HB1 := hid hb1; have k1 : ¬ 9223372036854775807 < 3 + D.size := (by omega); have k2 : ¬ 9223372036854775807 < 3 + D.size + 1 := (by omega); have k3 : ¬ 9223372036854775807 < 3 + D.size + 1 + 28 := (by omega); clear hD hDl hb1))
  clear k1 k2 k3 HD HDL HB1
  go_upto_region 7 with (first
    | (go_at_call 6; refine (HRUN.out _ w4 (textb_sz HDL.out HEL.out) HB4.out).mono ?_; rintro e w5 ⟨Y, rfl, hY, hb5⟩; have HYL := hid (run_size hY (textb_sz HDL.out HEL.out)); have HY := hid (hY.trans (congrArg runA (textb_is HD.out HE.out))); have HB5 := hid (HB4.out.trans (hb5.mono HB4.out.size)); clear hY hb5)
    | (go_at_call 11; have hg3 := HB3; refine (dig_got b (by omega) w3).mono ?_; rintro e w4 ⟨E, rfl, hE, hEl, hb4⟩; have HEL := hid hEl; have HE := hid hE; have HB4 := hid (HB3.out.trans (hb4.mono HB3.out.size)); have k3 : ¬ 9223372036854775807 < 3 + D.size + 4 + E.size := (by omega); have k4 : ¬ 9223372036854775807 < 3 + D.size + 4 + E.size + 1 := (by omega); have k5 : ¬ 9223372036854775807 < 3 + D.size + 4 + E.size + 1 + 28 := (by omega); clear hE hEl hb4)
    | (go_at_call 11; refine (dig_got a (by omega) w2).mono ?_; rintro e w3 ⟨D, rfl, hD, hDl, hb3⟩; have HDL := hid hDl; have HD := hid hD; have HB3 := hid (HB2.out.trans (hb3.mono HB2.out.size)); have hDl4 : D.size ≤ 4 := hDl; have k1 : ¬ 9223372036854775807 < 3 + D.size := (by omega); have k2 : ¬ 9223372036854775807 < 3 + D.size + 4 := (by omega); clear hD hDl hb3))
  clear k1 k2 k3 k4 k5 HD HDL HE HEL HB3 HB4 HB2 hDl4 hg3
  go_wp2_with fail
  go_loopw [9, 10] (fun v9 v10 wr => ∃ (i : Nat) (S : ByteArray), i ≤ c ∧ v9 = .string S ∧ v10 = .int .i64 i ∧ S.data.toList = lnT (List.replicate i tickW) ∧ S.size = 5 * i ∧ wr = w5) (fun _ v10 _ => c - (intOf v10).toNat)
  case atStart => exact ⟨0, ⟨#[]⟩, by omega, rfl, rfl, rfl, rfl, rfl⟩
  case round =>
    obtain ⟨i, S, hi, rfl, rfl, hS, hSl, rfl⟩ := hrel
    have HS := hid hS
    clear hS
    by_cases hic : i < c
    · have k1 : ¬ 9223372036854775807 < S.size + 5 := by omega
      have HSL := hid hSl
      clear hSl
      go_wp2_with fail
      go_roundw
      case rel => exact ⟨i + 1, _, by omega, rfl, by go_num, by rw [app_list, HS.out, tick_text], by rw [app_size, HSL.out]; show 5 * i + 5 = _; omega, (by first | rfl | trivial)⟩
      case measure => simp [intOf]; omega
    · have hie : i = c := by omega
      have HSC : Hid (S.data.toList = lnT (List.replicate c tickW)) := hid (by rw [← hie]; exact HS.out)
      have hS5 : S.size ≤ 500 := by omega
      have k1 : ¬ 9223372036854775807 < S.size + 28 := by omega
      have HS5 := hid hS5
      clear hSl hie HS hS5
      go_upto_region 13 with (go_at_call 6; refine (HRUN.out _ wr (textc_sz HS5.out) HB5.out).mono ?_; rintro e w6 ⟨Z, rfl, hZ, hb6⟩; have HZL := hid (run_size hZ (textc_sz HS5.out)); have HZ := hid (hZ.trans (congrArg runA (textc_is HSC.out))); have HB6 := hid (HB5.out.trans (hb6.mono HB5.out.size)); clear hZ hb6)
      clear k1 HSC HS5
      obtain ⟨es, hes, hcz⟩ := cut_textC c
      have hcx := cut_textA c hc100
      have hcy := cut_textB a b (by omega) (by omega)
      rw [← HC.out] at hcy
      obtain ⟨K, hK⟩ : ∃ K, K = goK runPl (kNew runPl) c := ⟨_, rfl⟩
      rw [← hK] at hcx hcy hcz
      rw [← HX.out] at hcx
      rw [← HY.out] at hcy
      rw [← HZ.out] at hcz
      obtain ⟨N, hN⟩ : ∃ N : Nat, N = c + 5 := ⟨_, rfl⟩
      have hNI : (c : Int) + 5 = N := by omega
      have HCX := hid (fun w' => cut_n X hcx (n := 6) rfl HXL.out w')
      have HCY := hid (fun w' => cut_n Y hcy (n := 7) rfl HYL.out w')
      have HCZ := hid (fun w' => cut_n Z hcz (n := N) (by rw [List.length_append, hes, hN]; rfl) HZL.out w')
      have HES := hid hes
      clear hcx hcy hcz hes hK hN HX HY HZ HXL HYL HZL
      go_upto_region 14 with (go_at_call 7; refine (HCX.out w6).mono ?_; rintro e w7 ⟨xA, xc, rfl, hrx, hb7⟩; have HRX := hid hrx; have HB7 := hid (HB6.out.trans (hb7.mono HB6.out.size)); clear hrx hb7)
      go_upto_region 15 with (go_at_call 7; refine (HCY.out w7).mono ?_; rintro e w8 ⟨yA, yc, rfl, hry, hb8⟩; have HRY := hid hry; have HRX2 := hid (HRX.out.new hb8); have HB8 := hid (HB7.out.trans (hb8.mono HB7.out.size)); clear hry hb8)
      go_upto_region 16 with (go_at_call 7; refine (HCZ.out w8).mono ?_; rintro e w9 ⟨zA, zc, rfl, hrz, hb9⟩; have HRZ := hid hrz; have HRX3 := hid (HRX2.out.new hb9); have HRY3 := hid (HRY.out.new hb9); have HB9 := hid (HB8.out.trans (hb9.mono HB8.out.size)); clear hrz hb9)
      clear HRX HRX2 HRY HCX HCY HCZ HB7 HB8 HB6 HB5
      go_wp2_with fail
      go_loopw [15] (fun v15 wr => ∃ j : Nat, j ≤ 4 ∧ v15 = .int .i64 j ∧ Below w9.heap.size w9 wr) (fun v15 _ => 4 - (intOf v15).toNat)
      case atStart => exact ⟨0, by omega, rfl, Below.refl _ _⟩
      case round =>
        obtain ⟨j, hj, rfl, hbr⟩ := hrel
        have HRX4 := hid (HRX3.out.new hbr)
        have HRY4 := hid (HRY3.out.new hbr)
        have HRZ4 := hid (HRZ.out.new hbr)
        have HBR := hid hbr
        clear hbr HRX3 HRY3 HRZ
        have hnc : N = c + 5 := by omega
        rcases (show j = 0 ∨ j = 1 ∨ j = 2 ∨ j = 3 ∨ j = 4 by omega) with rfl | rfl | rfl | rfl | rfl
        · obtain ⟨xb, xo, hxA, hxl, hxn, x1⟩ := row_text HRX4.out (i := 1) (s := (ansK K).getD 0 []) rfl
          obtain ⟨yb, yo, hyA, hyl, hyn, y1⟩ := row_text HRY4.out (i := 2) (s := (ansK K).getD 0 []) rfl
          obtain ⟨zb, zo, hzA, hzl, hzn, z1⟩ := row_text HRZ4.out (i := c + 0) (s := (ansK K).getD 0 []) ((z_get HES.out 0).trans rfl)
          subst hxA hyA hzA
          generalize (⟨((ansK K).getD 0 []).toArray⟩ : ByteArray) = R at x1 y1 z1
          rw [Nat.add_zero] at z1
          have hz2 : (0 : Int) ≤ (c : Int) := by omega
          have hz3 : (c : Int) < N := by omega
          clear hxn hyn hzn hnc
          go_upto_region 21 with fail
          go_quiet (fail)
          go_wp2_with fail
          go_roundw
          case rel => exact ⟨1, by omega, by go_num, belowQR HBR.out _⟩
          case measure => simp [intOf]
        · obtain ⟨xb, xo, hxA, hxl, hxn, x1⟩ := row_text HRX4.out (i := 2) (s := (ansK K).getD 1 []) rfl
          obtain ⟨yb, yo, hyA, hyl, hyn, y1⟩ := row_text HRY4.out (i := 3) (s := (ansK K).getD 1 []) rfl
          obtain ⟨zb, zo, hzA, hzl, hzn, z1⟩ := row_text HRZ4.out (i := c + 1) (s := (ansK K).getD 1 []) ((z_get HES.out 1).trans rfl)
          subst hxA hyA hzA
          generalize (⟨((ansK K).getD 1 []).toArray⟩ : ByteArray) = R at x1 y1 z1
          have hz1 : (c : Int) + 1 < N := by omega
          have hz2 : (0 : Int) ≤ (c : Int) + 1 := by omega
          have hz3 : (c : Int) < N := by omega
          clear hxn hyn hzn hnc
          go_upto_region 21 with fail
          go_quiet (fail)
          go_wp2_with fail
          go_roundw
          case rel => exact ⟨2, by omega, by go_num, belowQR HBR.out _⟩
          case measure => simp [intOf]
        · obtain ⟨xb, xo, hxA, hxl, hxn, x1⟩ := row_text HRX4.out (i := 3) (s := (ansK K).getD 2 []) rfl
          obtain ⟨yb, yo, hyA, hyl, hyn, y1⟩ := row_text HRY4.out (i := 4) (s := (ansK K).getD 2 []) rfl
          obtain ⟨zb, zo, hzA, hzl, hzn, z1⟩ := row_text HRZ4.out (i := c + 2) (s := (ansK K).getD 2 []) ((z_get HES.out 2).trans rfl)
          subst hxA hyA hzA
          generalize (⟨((ansK K).getD 2 []).toArray⟩ : ByteArray) = R at x1 y1 z1
          have hz1 : (c : Int) + 2 < N := by omega
          have hz2 : (0 : Int) ≤ (c : Int) + 2 := by omega
          have hz3 : (c : Int) < N := by omega
          clear hxn hyn hzn hnc
          go_upto_region 21 with fail
          go_quiet (fail)
          go_wp2_with fail
          go_roundw
          case rel => exact ⟨3, by omega, by go_num, belowQR HBR.out _⟩
          case measure => simp [intOf]
        · obtain ⟨xb, xo, hxA, hxl, hxn, x1⟩ := row_text HRX4.out (i := 4) (s := (ansK K).getD 3 []) rfl
          obtain ⟨yb, yo, hyA, hyl, hyn, y1⟩ := row_text HRY4.out (i := 5) (s := (ansK K).getD 3 []) rfl
          obtain ⟨zb, zo, hzA, hzl, hzn, z1⟩ := row_text HRZ4.out (i := c + 3) (s := (ansK K).getD 3 []) ((z_get HES.out 3).trans rfl)
          subst hxA hyA hzA
          generalize (⟨((ansK K).getD 3 []).toArray⟩ : ByteArray) = R at x1 y1 z1
          have hz1 : (c : Int) + 3 < N := by omega
          have hz2 : (0 : Int) ≤ (c : Int) + 3 := by omega
          have hz3 : (c : Int) < N := by omega
          clear hxn hyn hzn hnc
          go_upto_region 21 with fail
          go_quiet (fail)
          go_wp2_with fail
          go_roundw
          case rel => exact ⟨4, by omega, by go_num, belowQR HBR.out _⟩
          case measure => simp [intOf]
        · go_wp2_with fail
          go_ret
          exact ⟨rfl, HB9.out.trans (HBR.out.mono HB9.out.size)⟩
end Go.Proofs.YthdmgighblhmhaaGreatDoor
