/- The walk of framelaw4.LevelsNone: it returns true at every input. -/
import Derived.Test.YtfokcjooibmigaaDoorRingsUse
import Derived.Test.YtfokcjooibmigaaDoorApart
import Derived.Test.YtfokcjooibmigaaDoorAs
namespace Go.Proofs.YtfokcjooibmigaaDoor
open Go.RowKit
set_option maxRecDepth 100000

theorem reach_nil {a b : Nat} (h : Reach [] a b) : a = b := by
  induction h with
  | refl => rfl
  | step _ e _ => obtain ⟨x, hx, _⟩ := e; simp at hx
theorem reachB_nil (a b : Nat) : reachB [] a b = decide (a = b) := by
  by_cases h : a = b
  · subst h; rw [decide_eq_true rfl]; exact reachB_iff.2 .refl
  · rw [decide_eq_false h]
    cases hb : reachB [] a b with
    | false => rfl
    | true => exact absurd (reach_nil (reachB_iff.1 hb)) h
theorem sameB_nil (a b : Nat) : sameB [] a b = decide (a = b) := by
  unfold sameB; rw [reachB_nil, reachB_nil, Bool.eq_iff_iff]; simp; omega
theorem rings_nil : ringsTo [] 5 = [[0], [1], [2], [3], [4]] := by
  simp [ringsTo, doneB, ringTo, sameB_nil]
theorem least_nil : leastOf [] = ([0, 0, 0, 0, 0], 0) := by
  have h : (flowChk []).2 = 0 := by decide
  unfold leastOf
  rw [if_neg (by simp [h])]
  rfl
theorem rings_nil_of : ringsOf [] = ([[0], [1], [2], [3], [4]], 0) := by
  have h : (flowChk []).2 = 0 := by decide
  unfold ringsOf
  rw [if_neg (by simp [h]), rings_nil]

theorem apart_nil (a b : Int) : apartOf [] a b = if roomB a = false ∨ roomB b = false then (false, 1) else (decide (a ≠ b), 0) := by
  have h : (flowChk []).2 = 0 := by decide
  unfold apartOf
  rw [if_neg (by simp [h])]
  split
  · rfl
  · rename_i hn
    have h1 : roomB a = true := by cases h : roomB a with | true => rfl | false => exact absurd (.inl h) hn
    have h2 : roomB b = true := by cases h : roomB b with | true => rfl | false => exact absurd (.inr h) hn
    have := roomB_true.1 h1
    have := roomB_true.1 h2
    rw [reachB_nil, reachB_nil]
    congr 1
    rw [Bool.eq_iff_iff]; simp; omega

set_option maxHeartbeats 4000000 in
theorem levelsNone_walk {w : World} (hg : Handle w) (a b : Int) : Calls Tryd.prog 7 #[.int .i64 a, .int .i64 b] w fun e w' => e = .returned (.bool true) ∧ Below w.heap.size w w' := by
  have HG := hid hg
  clear hg
  go_enter Tryd.func7, Tryd.ntmps7
  go_wp2_with fail
  have hz : SlW none 0 0 := ⟨Nat.le_refl _, Nat.zero_le _, fun _ => ⟨rfl, rfl⟩⟩
  refine (least_lv none 0 [] w (Sl.nil _ _ _) hz).mono ?_
  rw [least_nil]
  rintro e w1 ⟨A1, c1, rfl, hr1, _, hb1⟩
  obtain ⟨xb, xo, rfl, hxb, hxx⟩ := Row.five (l := [0, 0, 0, 0, 0]) hr1
  have hc1 := hr1.le
  have HXX := hid hxx
  have HB1 := hid hb1
  rw [show errV ([0, 0, 0, 0, 0], (0 : Int)).2 = .nilIface from rfl, show (([0, 0, 0, 0, 0], 0) : List Int × Int).1.length = 5 from rfl]
  simp only [List.length_cons, List.length_nil] at hc1
  unfold maxLen at hc1
  clear hr1 hb1 hxx
  go_wp2_with fail
  refine (rings_any none 0 [] w1 (Sl.nil _ _ _) hz).mono ?_
  rw [rings_nil_of]
  rintro e w2 ⟨A2, c2, rs, hrs, rfl, hra, hb2⟩
  rw [show errV (([[0], [1], [2], [3], [4]], 0) : List (List Int) × Int).2 = .nilIface from rfl, show (([[0], [1], [2], [3], [4]], 0) : List (List Int) × Int).1.length = 5 from rfl] at *
  obtain ⟨r, rb, ro, hri, rfl, hrb, hcell, _⟩ := hra.get (i := 4) (by omega)
  have hx4 : r.xs = [4] := by
    have h := congrArg (fun l => l[4]?) hrs
    simp only [List.getElem?_map, hri] at h
    simpa using h
  rw [hx4] at hcell
  have x3 : w2.cell? ⟨xb, xo + 3, none⟩ = some (.int .i64 0) := HXX.out w2 hb2 3 (by omega)
  have hc2 := hra.row.le
  unfold maxLen at hc2
  have HB2 := hid (HB1.out.trans (hb2.mono HB1.out.size))
  rw [show ([4] : List Int).length = 1 from rfl] at hcell
  clear hra hrs hri hx4 hb2 HB1 HXX
  have hap := apart_nil a b
  by_cases hout : a < 0 ∨ 4 < a ∨ b < 0 ∨ 4 < b
  · have hno : roomB a = false ∨ roomB b = false := by rw [roomB_false, roomB_false]; omega
    rw [if_pos hno] at hap
    have HAP := hid hap
    clear hap hno
    by_cases h1 : a < 0
    · clear hout
      go_wp2_with (first
        | (go_at_call 37; refine (apart_any a b none 0 [] _ (Sl.nil _ _ _) hz).mono ?_; rw [HAP.out]; rintro e w3 ⟨rfl, hb3⟩; have HB3 := hid (HB2.out.trans (hb3.mono HB2.out.size)); clear hb3)
        | (go_at_call 12; refine (error_any 1 1 _ (HG.out.new HB3.out)).mono ?_; rintro e w4 ⟨rfl, hb4⟩; have HB4 := hid (HB3.out.trans (hb4.mono HB3.out.size)); clear hb4))
      go_ret
      exact ⟨rfl, HB4.out⟩
    by_cases h2 : 4 < a
    · clear hout
      go_wp2_with (first
        | (go_at_call 37; refine (apart_any a b none 0 [] _ (Sl.nil _ _ _) hz).mono ?_; rw [HAP.out]; rintro e w3 ⟨rfl, hb3⟩; have HB3 := hid (HB2.out.trans (hb3.mono HB2.out.size)); clear hb3)
        | (go_at_call 12; refine (error_any 1 1 _ (HG.out.new HB3.out)).mono ?_; rintro e w4 ⟨rfl, hb4⟩; have HB4 := hid (HB3.out.trans (hb4.mono HB3.out.size)); clear hb4))
      go_ret
      exact ⟨rfl, HB4.out⟩
    by_cases h3 : b < 0
    · clear hout
      go_wp2_with (first
        | (go_at_call 37; refine (apart_any a b none 0 [] _ (Sl.nil _ _ _) hz).mono ?_; rw [HAP.out]; rintro e w3 ⟨rfl, hb3⟩; have HB3 := hid (HB2.out.trans (hb3.mono HB2.out.size)); clear hb3)
        | (go_at_call 12; refine (error_any 1 1 _ (HG.out.new HB3.out)).mono ?_; rintro e w4 ⟨rfl, hb4⟩; have HB4 := hid (HB3.out.trans (hb4.mono HB3.out.size)); clear hb4))
      go_ret
      exact ⟨rfl, HB4.out⟩
    · have h4 : 4 < b := by omega
      clear hout
      go_wp2_with (first
        | (go_at_call 37; refine (apart_any a b none 0 [] _ (Sl.nil _ _ _) hz).mono ?_; rw [HAP.out]; rintro e w3 ⟨rfl, hb3⟩; have HB3 := hid (HB2.out.trans (hb3.mono HB2.out.size)); clear hb3)
        | (go_at_call 12; refine (error_any 1 1 _ (HG.out.new HB3.out)).mono ?_; rintro e w4 ⟨rfl, hb4⟩; have HB4 := hid (HB3.out.trans (hb4.mono HB3.out.size)); clear hb4))
      go_ret
      exact ⟨rfl, HB4.out⟩
  · have hno : ¬ (roomB a = false ∨ roomB b = false) := by rw [roomB_false, roomB_false]; omega
    rw [if_neg hno] at hap
    have HAP := hid hap
    have h1 : ¬ a < 0 := by omega
    have h2 : ¬ 4 < a := by omega
    have h3 : ¬ b < 0 := by omega
    have h4 : ¬ 4 < b := by omega
    clear hap hno hout
    by_cases hab : a = b
    · subst hab
      have hd : decide (a ≠ a) = false := by simp
      have HD := hid hd
      clear hd
      go_wp2_with (go_at_call 37; refine (apart_any a a none 0 [] _ (Sl.nil _ _ _) hz).mono ?_; rw [HAP.out, HD.out]; rintro e w3 ⟨rfl, hb3⟩; rw [errV_zero]; have HB3 := hid (HB2.out.trans (hb3.mono HB2.out.size)); clear hb3)
      go_ret
      exact ⟨by simp, HB3.out⟩
    · have hd : decide (a ≠ b) = true := by simpa using hab
      have HD := hid hd
      have hne : (a == b) = false := by simpa using hab
      clear hd
      go_wp2_with (go_at_call 37; refine (apart_any a b none 0 [] _ (Sl.nil _ _ _) hz).mono ?_; rw [HAP.out, HD.out]; rintro e w3 ⟨rfl, hb3⟩; rw [errV_zero]; have HB3 := hid (HB2.out.trans (hb3.mono HB2.out.size)); clear hb3)
      go_ret
      exact ⟨by simp [hab], HB3.out⟩
end Go.Proofs.YtfokcjooibmigaaDoor
