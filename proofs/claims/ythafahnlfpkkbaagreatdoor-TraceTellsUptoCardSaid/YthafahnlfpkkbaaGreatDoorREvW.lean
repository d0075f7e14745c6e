/- The reference (package frameref2): the contracts of Events and EventText. Conditions: none. -/
import Derived.Test.YthafahnlfpkkbaaGreatDoorRTextU
import Derived.Test.YthafahnlfpkkbaaGreatDoorEvU
namespace Go.Proofs.YthafahnlfpkkbaaGreatDoor
open Go.RowKit
set_option maxRecDepth 100000

set_option maxHeartbeats 4000000 in
theorem revents_any (A : Option Addr) (n c : Nat) (l : List Ev) (w : World) (hl : l.length = n) (hs : Sl w A 4 n (l.flatMap Ev.cells)) :
    Calls Tryz.prog 17 #[.slice A n c] w fun e w' => e = .returned (.int .i64 (evsChk l)) ∧ Below w.heap.size w w' := by
  obtain ⟨E, hE⟩ : ∃ E, E = evsChk l := ⟨_, rfl⟩
  rw [← hE]
  have HE := hid hE
  have HS := hid hs
  have HL := hid hl
  clear hE hs hl
  by_cases h2 : 2000 < n
  · have hv : E = 4 := by rw [HE.out]; unfold evsChk; rw [if_pos (by rw [HL.out]; exact h2)]
    rw [hv]
    clear hv
    go_enter Tryz.func17, Tryz.ntmps17
    go_wp2_with fail
    go_ret
    exact ⟨rfl, Below.refl _ _⟩
  · have h20 : n ≤ 2000 := by omega
    have HE2 : Hid (E = evsFirst l) := by show _ = _; rw [HE.out]; unfold evsChk; rw [if_neg (by rw [HL.out]; exact h2)]
    clear h2 HE
    go_enter Tryz.func17, Tryz.ntmps17
    go_wp2_with fail
    go_loopw [3] (fun v3 wr => ∃ i : Nat, i ≤ n ∧ v3 = .int .i64 i ∧ Below w.heap.size w wr ∧ ∀ (j : Nat) (y : Ev), j < i → l[j]? = some y → evChk y = 0) (fun v3 _ => n - (intOf v3).toNat)
    case atStart => exact ⟨0, by omega, rfl, Below.refl _ _, fun j y hj => by omega⟩
    case round =>
      obtain ⟨i, hil, rfl, hb, hno⟩ := hrel
      have HB := hid hb
      have HNO := hid hno
      clear hb hno
      by_cases hin : i < n
      · obtain ⟨x, hx⟩ : ∃ x, l[i]? = some x := ⟨_, List.getElem?_eq_getElem (by rw [HL.out]; exact hin)⟩
        obtain ⟨b, off, rfl, hbl, g0, g1, g2, g3⟩ := sl_ev (HS.out.new HB.out) hx hin
        have HX := hid hx
        obtain ⟨xt, xr, xp, xw⟩ := x
        simp only [] at g0 g1 g2 g3
        clear hx
        have hin' : (i : Int) < (n : Int) := by omega
        by_cases hr : evRight ⟨xt, xr, xp, xw⟩ = false
        · have hc : evChk ⟨xt, xr, xp, xw⟩ = 1 := by unfold evChk; rw [if_pos hr]
          have hE1 : E = 1 := by rw [HE2.out, evsFirst_at HNO.out HX.out (by rw [hc]; decide), hc]
          have HE1 := hid hE1
          have hr2 : xt < 0 ∨ (0 ≤ xt ∧ 1000000 < xt) ∨ ((0 ≤ xt ∧ xt ≤ 1000000) ∧ xr < -1) ∨ ((0 ≤ xt ∧ xt ≤ 1000000) ∧ -1 ≤ xr ∧ 4 < xr) ∨ ((0 ≤ xt ∧ xt ≤ 1000000) ∧ (-1 ≤ xr ∧ xr ≤ 4) ∧ xp < 0) ∨ ((0 ≤ xt ∧ xt ≤ 1000000) ∧ (-1 ≤ xr ∧ xr ≤ 4) ∧ 0 ≤ xp ∧ 19 < xp) ∨
              ((0 ≤ xt ∧ xt ≤ 1000000) ∧ (-1 ≤ xr ∧ xr ≤ 4) ∧ (0 ≤ xp ∧ xp ≤ 19) ∧ xw < 0) ∨ ((0 ≤ xt ∧ xt ≤ 1000000) ∧ (-1 ≤ xr ∧ xr ≤ 4) ∧ (0 ≤ xp ∧ xp ≤ 19) ∧ 0 ≤ xw ∧ 5 < xw) := by
            unfold evRight wIn at hr
            simp only [Bool.and_eq_false_iff, decide_eq_false_iff_not] at hr
            by_cases t0 : xt < 0
            · exact .inl t0
            by_cases t1 : 1000000 < xt
            · exact .inr (.inl ⟨by omega, t1⟩)
            by_cases t2 : xr < -1
            · exact .inr (.inr (.inl ⟨⟨by omega, by omega⟩, t2⟩))
            by_cases t3 : 4 < xr
            · exact .inr (.inr (.inr (.inl ⟨⟨by omega, by omega⟩, by omega, t3⟩)))
            by_cases t4 : xp < 0
            · exact .inr (.inr (.inr (.inr (.inl ⟨⟨by omega, by omega⟩, ⟨by omega, by omega⟩, t4⟩))))
            by_cases t5 : 19 < xp
            · exact .inr (.inr (.inr (.inr (.inr (.inl ⟨⟨by omega, by omega⟩, ⟨by omega, by omega⟩, by omega, t5⟩)))))
            by_cases t6 : xw < 0
            · exact .inr (.inr (.inr (.inr (.inr (.inr (.inl ⟨⟨by omega, by omega⟩, ⟨by omega, by omega⟩, ⟨by omega, by omega⟩, t6⟩))))))
            · exact .inr (.inr (.inr (.inr (.inr (.inr (.inr ⟨⟨by omega, by omega⟩, ⟨by omega, by omega⟩, ⟨by omega, by omega⟩, by omega, by omega⟩))))))
          clear hE1 hc hr
          rcases hr2 with q | ⟨q0, q⟩ | ⟨⟨q0, q1⟩, q⟩ | ⟨⟨q0, q1⟩, q2, q⟩ | ⟨⟨q0, q1⟩, ⟨q2, q3⟩, q⟩ | ⟨⟨q0, q1⟩, ⟨q2, q3⟩, q4, q⟩ | ⟨⟨q0, q1⟩, ⟨q2, q3⟩, ⟨q4, q5⟩, q⟩ | ⟨⟨q0, q1⟩, ⟨q2, q3⟩, ⟨q4, q5⟩, q6, q⟩
          all_goals
            go_wp2_with fail
            go_ret
            exact ⟨by rw [HE1.out]; rfl, HB.out.alloc HB.out.size _⟩
        · have hr2 : ((0 ≤ xt ∧ xt ≤ 1000000) ∧ (-1 ≤ xr ∧ xr ≤ 4)) ∧ (0 ≤ xp ∧ xp ≤ 19) ∧ 0 ≤ xw ∧ xw ≤ 5 := by
            have hr3 : evRight ⟨xt, xr, xp, xw⟩ = true := by simpa using hr
            unfold evRight wIn at hr3
            simp only [Bool.and_eq_true, decide_eq_true_eq] at hr3
            omega
          obtain ⟨⟨⟨q0, q1⟩, q2, q3⟩, ⟨q4, q5⟩, q6, q7⟩ := hr2
          have hcc : evChk ⟨xt, xr, xp, xw⟩ = if xr < 0 ∧ (xp ≠ 0 ∨ xw ≠ 0) then 3 else 0 := by unfold evChk; rw [if_neg hr]
          clear hr
          by_cases h3 : xr < 0 ∧ (xp ≠ 0 ∨ xw ≠ 0)
          · rw [if_pos h3] at hcc
            have hE1 : E = 3 := by rw [HE2.out, evsFirst_at HNO.out HX.out (by rw [hcc]; decide), hcc]
            have HE1 := hid hE1
            obtain ⟨k1, k2⟩ := h3
            obtain rfl : xr = -1 := by omega
            have k3 : ¬ xp = 0 ∨ (xp = 0 ∧ ¬ xw = 0) := by omega
            clear hE1 hcc k2
            rcases k3 with k3 | ⟨k3, k4⟩
            · have b1 : (xp != 0) = true := by simpa using k3
              go_wp2_with fail
              go_ret
              exact ⟨by rw [HE1.out]; rfl, HB.out.alloc HB.out.size _⟩
            · subst k3
              have b1 : (xw != 0) = true := by simpa using k4
              go_wp2_with fail
              go_ret
              exact ⟨by rw [HE1.out]; rfl, HB.out.alloc HB.out.size _⟩
          · rw [if_neg h3] at hcc
            have HCC := hid hcc
            clear hcc
            by_cases k1 : xr = -1
            · subst k1
              obtain ⟨rfl, rfl⟩ : xp = 0 ∧ xw = 0 := by omega
              go_wp2_with fail
              go_roundw
              case rel =>
                refine ⟨i + 1, by omega, by go_num, HB.out.alloc HB.out.size _, fun j y hj hy => ?_⟩
                by_cases e : j = i
                · subst e; rw [HX.out] at hy; cases hy; exact HCC.out
                · exact HNO.out j y (by omega) hy
              case measure => simp [intOf]; omega
            · have b1 : (xr == -1) = false := by rw [beq_eq_false_iff_ne]; exact k1
              go_wp2_with fail
              go_roundw
              case rel =>
                refine ⟨i + 1, by omega, by go_num, HB.out.alloc HB.out.size _, fun j y hj hy => ?_⟩
                by_cases e : j = i
                · subst e; rw [HX.out] at hy; cases hy; exact HCC.out
                · exact HNO.out j y (by omega) hy
              case measure => simp [intOf]; omega
      · obtain rfl : i = n := by omega
        have hE0 : E = 0 := by
          rw [HE2.out]
          exact evsFirst_none fun j y hy => HNO.out j y (by rw [← HL.out]; exact (List.getElem?_eq_some_iff.1 hy).1) hy
        have HE0 := hid hE0
        clear hE0
        go_wp2_with fail
        go_ret
        exact ⟨by rw [HE0.out]; rfl, HB.out⟩
set_option maxHeartbeats 2000000 in
theorem revtext_any (x : Ev) (hx : WfEv x) (w : World) : Calls Tryz.prog 18 #[.agg #[.int .i64 x.tick, .int .i64 x.room, .int .i64 x.pc, .int .i64 x.what]] w fun e w' => ∃ T : ByteArray, e = .returned (.string T) ∧ T.data.toList = evLine x ∧ Below w.heap.size w w' := by
  obtain ⟨t, r, p, q⟩ := x
  obtain ⟨⟨t0, t1⟩, ⟨r0, r1⟩, ⟨p0, p1⟩, q0, q1⟩ := hx
  simp only [] at t0 t1 r0 r1 p0 p1 q0 q1 ⊢
  obtain ⟨w1, hw1⟩ : ∃ w1, w1 = w.alloc (.cells #[.int .i64 t, .int .i64 r, .int .i64 p, .int .i64 q] 32) := ⟨_, rfl⟩
  have hb1 : Below w.heap.size w w1 := by rw [hw1]; exact (Below.refl _ _).alloc (Nat.le_refl _) _
  have hbox : w1.heap[w.heap.size]? = some (.cells #[.int .i64 t, .int .i64 r, .int .i64 p, .int .i64 q] 32 (0, 0)) := by rw [hw1]; exact heap_alloc_new w _
  have HBX : Hid (∀ w', Below w1.heap.size w1 w' → w'.cell? ⟨w.heap.size, 0, none⟩ = some (.int .i64 t) ∧ w'.cell? ⟨w.heap.size, 1, none⟩ = some (.int .i64 r) ∧ w'.cell? ⟨w.heap.size, 2, none⟩ = some (.int .i64 p) ∧ w'.cell? ⟨w.heap.size, 3, none⟩ = some (.int .i64 q) ∧ w.heap.size < w'.heap.size) := hid fun w' hb => by
    have h := (hb.block _ (blk_lt hbox)).trans hbox
    have x0 := blk_cell h 0
    have x1 := blk_cell h 1
    have x2 := blk_cell h 2
    have x3 := blk_cell h 3
    simp at x0 x1 x2 x3
    exact ⟨x0, x1, x2, x3, blk_lt h⟩
  have h10 : (10 : Int) ^ 7 = 10000000 := by decide
  rw [h10] at t1 r1 p1 q1
  have HB1 := hid hb1
  clear hb1 hbox
  have h32 : (ByteArray.mk #[32]).size = 1 := rfl
  obtain ⟨S0, hS0, hz0, hc0⟩ : ∃ S : ByteArray, S.data.toList = Lib.itoa t ∧ S.size ≤ 21 ∧ ∀ w', Calls Tryz.prog 57 #[.int .i64 t] w' fun e w'' => e = .returned (.string S) ∧ Below w'.heap.size w' w'' := by
    obtain ⟨N, rfl⟩ : ∃ N : Nat, t = N := ⟨t.toNat, by omega⟩
    exact ⟨⟨(Lib.decDigits N).toArray⟩, by rw [itoa_nat], by rw [Lib.size_eq]; exact dec_len21 (by omega), fun w' => rdigits_any N (by omega) w'⟩
  have HC0 := hid hc0
  have HROW : Hid (∀ (word : ByteArray) (w' : World) (b : Nat), w'.heap[b]? = some (.cells #[.int .i64 p, .int .i64 q] 3 (0, 0)) → word.size ≤ 100000 → Calls Tryz.prog 58 #[.string word, .slice (some ⟨b, 0, none⟩) 2 2] w' fun e w'' => ∃ T : ByteArray, e = .returned (.string T) ∧ T.data.toList = word.data.toList ++ [p, q].flatMap numT ∧ Below w'.heap.size w' w'') := hid fun word w' b hb hw =>
    rrow_any word _ 2 [p, q] w' ⟨rfl, fun _ => ⟨b, 0, rfl, blk_lt hb, fun j u hu => by rw [Nat.zero_add, blk_cell hb]; simpa [ints] using hu⟩⟩ (fun n hn => by simp only [List.mem_cons, List.mem_nil_iff, or_false] at hn; rcases hn with rfl | rfl <;> omega) hw (show 2 ≤ 100 by decide)
  clear hc0
  by_cases hr : 0 ≤ r
  · obtain ⟨S1, hS1, hz1, hc1⟩ : ∃ S : ByteArray, S.data.toList = Lib.itoa r ∧ S.size ≤ 21 ∧ ∀ w', Calls Tryz.prog 57 #[.int .i64 r] w' fun e w'' => e = .returned (.string S) ∧ Below w'.heap.size w' w'' := by
      obtain ⟨N, rfl⟩ : ∃ N : Nat, r = N := ⟨r.toNat, by omega⟩
      exact ⟨⟨(Lib.decDigits N).toArray⟩, by rw [itoa_nat], by rw [Lib.size_eq]; exact dec_len21 (by omega), fun w' => rdigits_any N (by omega) w'⟩
    have hrm : roomT ⟨t, r, p, q⟩ = S1.data.toList := by unfold roomT; rw [if_pos hr, hS1]
    have HRM := hid hrm
    have HS0 := hid hS0
    have HC1 := hid hc1
    clear hS0 hS1 hrm hc1
    go_enter Tryz.func18, Tryz.ntmps18
    go_wp2_with fail
    rw [← hw1]
    refine (HC1.out w1).mono ?_
    rintro e w2 ⟨rfl, hb2⟩
    obtain ⟨y0, y1, y2, y3, hly⟩ := HBX.out w2 hb2
    have HB2 := hid hb2
    clear hb2 HC1 hw1
    go_wp2_with fail
    refine (HC0.out w2).mono ?_
    rintro e w3 ⟨rfl, hb3⟩
    obtain ⟨x0, x1, x2, x3, hlx⟩ := HBX.out w3 (HB2.out.trans (hb3.mono HB2.out.size))
    have HB3 := hid (HB2.out.trans (hb3.mono HB2.out.size))
    clear hb3 HC0 y0 y1 y2 y3 hly HB2
    go_wp2_with fail
    refine (HROW.out _ _ w3.heap.size (heap_alloc_new w3 _) ?_).mono ?_
    · rw [ByteArray.size_append, ByteArray.size_append, h32]; omega
    rintro e w4 ⟨T, rfl, hT, hb4⟩
    have HT := hid hT
    have HB4 := hid (((HB1.out.trans (HB3.out.mono HB1.out.size)).alloc (Nat.le_trans HB1.out.size HB3.out.size) _).trans (hb4.mono (by have := HB1.out.size; have := HB3.out.size; simp; omega)))
    clear hT hb4 HROW
    go_wp2_with fail
    go_ret
    refine ⟨T, rfl, ?_, HB4.out⟩
    rw [HT.out]
    simp only [ByteArray.data_append, Array.toList_append, HS0.out]
    unfold evLine
    rw [HRM.out]
    simp [numT]
  · have hrm : roomT ⟨t, r, p, q⟩ = [45] := by unfold roomT; rw [if_neg hr]
    have HRM := hid hrm
    have HS0 := hid hS0
    have h45 : (ByteArray.mk #[45]).size = 1 := rfl
    clear hS0 hrm
    go_enter Tryz.func18, Tryz.ntmps18
    go_wp2_with fail
    rw [← hw1]
    refine (HC0.out w1).mono ?_
    rintro e w3 ⟨rfl, hb3⟩
    obtain ⟨x0, x1, x2, x3, hlx⟩ := HBX.out w3 hb3
    have HB3 := hid hb3
    clear hb3 HC0 hw1
    go_wp2_with fail
    refine (HROW.out _ _ w3.heap.size (heap_alloc_new w3 _) ?_).mono ?_
    · rw [ByteArray.size_append, ByteArray.size_append, h32, h45]; omega
    rintro e w4 ⟨T, rfl, hT, hb4⟩
    have HT := hid hT
    have HB4 := hid (((HB1.out.trans (HB3.out.mono HB1.out.size)).alloc (Nat.le_trans HB1.out.size HB3.out.size) _).trans (hb4.mono (by have := HB1.out.size; have := HB3.out.size; simp; omega)))
    clear hT hb4 HROW
    go_wp2_with fail
    go_ret
    refine ⟨T, rfl, ?_, HB4.out⟩
    rw [HT.out]
    simp only [ByteArray.data_append, Array.toList_append, HS0.out]
    unfold evLine
    rw [HRM.out]
    simp [numT]
end Go.Proofs.YthafahnlfpkkbaaGreatDoor
