/- Package frame: the contract of Gap, for every frame. -/
import Derived.Test.YtfokcjooibmigaaDoorFrame2
namespace Go.Proofs.YtfokcjooibmigaaDoor
open Go.RowKit
set_option maxRecDepth 100000

/-- Behind k ticks: the last one of the room's, and the widest gap. -/
def gapSt (ticks : Int) (l : List Span) (room : Int) : Nat → Int × Int
  | 0 => (-1, 0)
  | k + 1 => if turnAt l ((k : Int) % ticks) = room then ((k : Int), if 0 ≤ (gapSt ticks l room k).1 then max (gapSt ticks l room k).2 ((k : Int) - (gapSt ticks l room k).1) else (gapSt ticks l room k).2) else gapSt ticks l room k
def gapOf (ticks : Int) (l : List Span) (room : Int) : Int × Int :=
  if (frameChk ticks l).2 ≠ 0 then (0, (frameChk ticks l).2) else if roomB room = false then (0, 1)
  else if (gapSt ticks l room (2 * ticks).toNat).1 < 0 then (0, 5) else ((gapSt ticks l room (2 * ticks).toNat).2, 0)

theorem gapSt_bd (ticks : Int) (l : List Span) (room : Int) : ∀ k, -1 ≤ (gapSt ticks l room k).1 ∧ (gapSt ticks l room k).1 < max k 1 ∧ 0 ≤ (gapSt ticks l room k).2 ∧ (gapSt ticks l room k).2 ≤ k
  | 0 => by simp [gapSt]
  | k + 1 => by
    have := gapSt_bd ticks l room k
    unfold gapSt
    split
    · split <;> simp only [] <;> omega
    · omega

set_option maxHeartbeats 4000000 in
theorem gap_any (ticks room : Int) (A : Option Addr) (c : Nat) (l : List Span) (w : World) (hs : Sl w A 3 l.length (l.flatMap Span.cells)) (hsw : SlW A c l.length) :
    Calls Tryd.prog 34 #[.int .i64 ticks, .slice A l.length c, .int .i64 room] w (Tell w (gapOf ticks l room)) := by
  have HS := hid hs
  have HW := hid hsw
  clear hs hsw
  by_cases he : (frameChk ticks l).2 = 0
  · obtain ⟨h1, h2, h3⟩ := frameChk_ticks he
    have HE := hid he
    cases hr : roomB room with
    | false =>
      have hw : gapOf ticks l room = (0, 1) := by simp [gapOf, he, hr]
      rw [hw]
      clear he hw
      go_enter Tryd.func34, Tryd.ntmps34
      go_wp2_with (first
        | (go_at_call 54; refine (frame_right ticks A c l _ HS.out HW.out).mono ?_; rw [HE.out]; rintro e w1 ⟨rfl, hb1⟩; rw [errV_zero])
        | (go_at_call 48; refine (room_any _ _).mono ?_; rw [hr]; rintro e w2 ⟨rfl, rfl⟩))
      go_ret2
      exact ⟨rfl, hb1⟩
    | true =>
      obtain ⟨q, hq⟩ : ∃ q, q = gapOf ticks l room := ⟨_, rfl⟩
      rw [← hq]
      have HQ := hid hq
      have HR := hid hr
      clear he hq hr
      obtain ⟨n, rfl⟩ : ∃ n : Nat, ticks = n := ⟨ticks.toNat, by omega⟩
      go_enter Tryd.func34, Tryd.ntmps34
      go_wp2_with (first
        | (go_at_call 54; refine (frame_right n A c l _ HS.out HW.out).mono ?_; rw [HE.out]; rintro e w1 ⟨rfl, hb1⟩; rw [errV_zero]; have HB1 := hid hb1; clear hb1)
        | (go_at_call 48; refine (room_any _ _).mono ?_; rw [HR.out]; rintro e w2 ⟨rfl, rfl⟩))
      go_loopw [9, 10, 11, 24] (fun v9 v10 v11 v24 wr => ∃ (k : Nat) (last most : Int), k ≤ 2 * n ∧ v24 = .int .i64 k ∧ v9 = .int .i64 last ∧ v10 = .int .i64 most ∧ (last, most) = gapSt n l room k ∧ Below w.heap.size w wr) (fun _ _ _ v24 _ => 2 * n - (intOf v24).toNat)
      case atStart => exact ⟨0, -1, 0, by omega, rfl, rfl, rfl, rfl, HB1.out⟩
      case round =>
        obtain ⟨k, last, most, hk, rfl, rfl, rfl, hst, hb⟩ := hrel
        have hbd := gapSt_bd n l room k
        rw [← hst] at hbd
        obtain ⟨d1, d2, d3, d4⟩ := hbd
        have HST := hid hst
        have HB := hid hb
        clear hst hb
        have d5 : last ≤ k := by simp only [] at d2; omega
        simp only [] at d1 d3 d4
        clear d2
        by_cases hlt : k < 2 * n
        · by_cases hit : turnAt l ((k : Int) % n) = room
          · have HIT := hid hit
            clear hit
            by_cases hl : 0 ≤ last
            · go_wp2_with (go_at_call 55; refine (turn_any n k A c l _ (HS.out.new HB.out) HW.out h1 h2 (by omega) (by omega)).mono ?_; rw [HIT.out]; rintro e w2 ⟨rfl, hb2⟩)
              go_roundw
              case rel => exact ⟨k + 1, _, _, by omega, by go_num, rfl, rfl, by simp only [gapSt, HIT.out, if_true, ← HST.out, hl]; congr 1; rw [Int.max_def]; split <;> split <;> omega, HB.out.trans (hb2.mono HB.out.size)⟩
              case measure => simp [intOf]; omega
            · go_wp2_with (go_at_call 55; refine (turn_any n k A c l _ (HS.out.new HB.out) HW.out h1 h2 (by omega) (by omega)).mono ?_; rw [HIT.out]; rintro e w2 ⟨rfl, hb2⟩)
              go_roundw
              case rel => exact ⟨k + 1, _, _, by omega, by go_num, rfl, rfl, by simp only [gapSt, HIT.out, if_true, ← HST.out]; rw [if_neg (by omega)], HB.out.trans (hb2.mono HB.out.size)⟩
              case measure => simp [intOf]; omega
          · have hb : (turnAt l ((k : Int) % n) != room) = true := by simpa using hit
            have HIT := hid hit
            clear hit
            generalize hu : turnAt l ((k : Int) % n) = u at hb
            have HU := hid hu
            clear hu
            go_wp2_with (go_at_call 55; refine (turn_any n k A c l _ (HS.out.new HB.out) HW.out h1 h2 (by omega) (by omega)).mono ?_; rw [HU.out]; rintro e w2 ⟨rfl, hb2⟩)
            go_roundw
            case rel => exact ⟨k + 1, _, _, by omega, by go_num, rfl, rfl, by simp only [gapSt, HIT.out, if_false, ← HST.out], HB.out.trans (hb2.mono HB.out.size)⟩
            case measure => simp [intOf]; omega
        · obtain rfl : k = 2 * n := by omega
          have hq := HQ.out
          have hn : (2 * (n : Int)).toNat = 2 * n := by omega
          by_cases hl : last < 0
          · rw [gapOf, if_neg (by simp [HE.out]), if_neg (by simp [HR.out]), hn, ← HST.out, if_pos hl] at hq
            subst hq
            go_wp2_with fail
            go_ret2
            exact ⟨rfl, HB.out⟩
          · rw [gapOf, if_neg (by simp [HE.out]), if_neg (by simp [HR.out]), hn, ← HST.out, if_neg hl] at hq
            subst hq
            go_wp2_with fail
            go_ret2
            exact ⟨rfl, HB.out⟩
  · have hw : gapOf ticks l room = (0, (frameChk ticks l).2) := by simp [gapOf, he]
    rw [hw]
    have hv := errV_pos he
    have HV := hid hv
    clear he hw hv
    go_enter Tryd.func34, Tryd.ntmps34
    go_wp2_with (go_at_call 54; refine (frame_right ticks A c l _ HS.out HW.out).mono ?_; rw [HV.out]; rintro e w1 ⟨rfl, hb1⟩)
    go_ret2
    exact ⟨by rw [HV.out]; rfl, hb1⟩
end Go.Proofs.YtfokcjooibmigaaDoor
