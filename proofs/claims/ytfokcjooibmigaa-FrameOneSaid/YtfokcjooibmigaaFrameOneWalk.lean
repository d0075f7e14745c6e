/- The walk of framelaw4.FrameOne: it returns true at every input. -/
import Derived.Test.YtfokcjooibmigaaGap
import Derived.Test.YtfokcjooibmigaaCounting
namespace Go.Proofs.Ytfokcjooibmigaa
open Go.RowKit

theorem count_frame (n : Nat) (h : 1 ≤ n) (h5 : n ≤ 5) : (frameChk n (countSpans n)).2 = 0 := by
  rcases (show n = 1 ∨ n = 2 ∨ n = 3 ∨ n = 4 ∨ n = 5 by omega) with rfl | rfl | rfl | rfl | rfl <;> decide
theorem count_gap (n r : Nat) (h : r < n) (h5 : n ≤ 5) : gapOf n (countSpans n) r = ((n : Int), 0) := by
  rcases (show n = 1 ∨ n = 2 ∨ n = 3 ∨ n = 4 ∨ n = 5 by omega) with rfl | rfl | rfl | rfl | rfl <;>
    rcases (show r = 0 ∨ r = 1 ∨ r = 2 ∨ r = 3 ∨ r = 4 by omega) with rfl | rfl | rfl | rfl | rfl <;> first | (exfalso; omega) | decide
theorem count_turn_nat (n m : Nat) (h : m < n) (h5 : n ≤ 5) : turnAt (countSpans n) m = m := by
  rcases (show n = 1 ∨ n = 2 ∨ n = 3 ∨ n = 4 ∨ n = 5 by omega) with rfl | rfl | rfl | rfl | rfl <;>
    rcases (show m = 0 ∨ m = 1 ∨ m = 2 ∨ m = 3 ∨ m = 4 by omega) with rfl | rfl | rfl | rfl | rfl <;> first | (exfalso; omega) | decide
theorem count_turn (n : Nat) (t : Int) (h : 1 ≤ n) (h5 : n ≤ 5) : turnAt (countSpans n) (t % n) = t % n := by
  have h0 := Int.emod_nonneg t (show (n : Int) ≠ 0 by omega)
  have h1 := Int.emod_lt_of_pos t (show 0 < (n : Int) by omega)
  obtain ⟨m, hm⟩ : ∃ m : Nat, t % n = m := ⟨(t % n).toNat, by omega⟩
  rw [hm]
  exact count_turn_nat n m (by omega) h5
theorem countSpans_len (n : Nat) : (countSpans n).length = n := by simp [countSpans]

theorem who_n (ticks t : Int) (A : Option Addr) (n c : Nat) (l : List Span) (w : World) (hn : l.length = n) (hs : Sl w A 3 n (l.flatMap Span.cells)) (hsw : SlW A c n) (h4 : t ≤ 9223372036854775807) :
    Calls Try.prog 21 #[.int .i64 ticks, .slice A n c, .int .i64 t] w (Tell w (whoOf ticks l t)) := by
  subst hn; exact who_any ticks t A c l w hs hsw h4
theorem gap_n (ticks room : Int) (A : Option Addr) (n c : Nat) (l : List Span) (w : World) (hn : l.length = n) (hs : Sl w A 3 n (l.flatMap Span.cells)) (hsw : SlW A c n) :
    Calls Try.prog 22 #[.int .i64 ticks, .slice A n c, .int .i64 room] w (Tell w (gapOf ticks l room)) := by
  subst hn; exact gap_any ticks room A c l w hs hsw

set_option maxHeartbeats 4000000 in
theorem frameOne_walk (n t : Int) (w : World) : Calls Try.prog 8 #[.int .i64 n, .int .i64 t] w fun e w' => e = .returned (.bool true) ∧ Below w.heap.size w w' := by
  by_cases hout : n < 1 ∨ 5 < n ∨ t < 0 ∨ 10000 < t
  · by_cases h1 : n < 1
    · clear hout
      go_enter Try.func8, Try.ntmps8
      go_wp2_with fail
      go_ret
      exact ⟨rfl, Below.refl _ _⟩
    by_cases h2 : 5 < n
    · clear hout
      go_enter Try.func8, Try.ntmps8
      go_wp2_with fail
      go_ret
      exact ⟨rfl, Below.refl _ _⟩
    by_cases h3 : t < 0
    · clear hout
      go_enter Try.func8, Try.ntmps8
      go_wp2_with fail
      go_ret
      exact ⟨rfl, Below.refl _ _⟩
    · have h4 : 10000 < t := by omega
      clear hout
      go_enter Try.func8, Try.ntmps8
      go_wp2_with fail
      go_ret
      exact ⟨rfl, Below.refl _ _⟩
  · have h3 : 0 ≤ t := by omega
    have h4 : t ≤ 10000 := by omega
    obtain ⟨m, rfl⟩ : ∃ m : Nat, n = m := ⟨n.toNat, by omega⟩
    have h1 : 1 ≤ m := by omega
    have h2 : m ≤ 5 := by omega
    clear hout
    have hz : ((m : Int) == 0) = false := by simp; omega
    have hm0 := Int.emod_nonneg t (show (m : Int) ≠ 0 by omega)
    have hmod : t.tmod m = t % m := Int.tmod_eq_emod_of_nonneg h3
    obtain ⟨q, hq⟩ : ∃ q, t % m = q := ⟨_, rfl⟩
    rw [hq] at hmod hm0
    have hwho : whoOf m (countSpans m) t = (q, 0) := by
      have ht := count_turn m t h1 h2
      rw [hq] at ht
      simp only [whoOf, count_frame m h1 h2, hq, ht]
      rw [if_neg (by simp), if_neg (by omega)]
    have HWHO := hid hwho
    clear hwho
    go_enter Try.func8, Try.ntmps8
    go_wp2_with (first
      | (go_at_call 20; refine (counting_any m h2 _).mono ?_; rintro e w1 ⟨A1, c1, rows, A2, c2, rfl, hc, hb⟩
         have hsl := hc.spans.sl
         have hle := hc.spans.le
         have hsw : SlW A2 c2 m := ⟨hle.1, hle.2, fun h => by
           rcases hc.spans.2 with ⟨_, h1, h2⟩ | ⟨_, _, _, h', _⟩
           · exact ⟨h1, h2⟩
           · rw [h'] at h; cases h⟩
         have HSL := hid hsl
         have HSW := hid hsw
         have HB := hid hb
         clear hc hb hsl hle hsw)
      | (go_at_call 21; refine (who_n m t A2 m c2 (countSpans m) _ (countSpans_len m) (by exact HSL.out.new ((Below.refl _ _).alloc (Nat.le_refl _) _)) HSW.out (by omega)).mono ?_; rw [HWHO.out]; rintro e w2 ⟨rfl, hb2⟩; rw [errV_zero]; have HB2 := hid hb2; clear hb2))
    have hb := HB.out
    have hb2 := HB2.out
    have hbx : (w1.alloc (Obj.cells #[.slice A1 m c1, .int .i64 m, .slice A2 m c2, .slice none 0 0] 54)).cell? ⟨w1.heap.size, 2, none⟩ = some (.slice A2 m c2) := blk_cell (heap_alloc_new w1 _) 2
    have hbx2 := (hb2.cell (p := ⟨w1.heap.size, 2, none⟩) (by simp)).trans hbx
    have HBX := hid hbx2
    have HWW := hid ((hb.alloc hb.size _).trans (hb2.mono (by have := hb.size; simp; omega)))
    have HS2 := hid ((HSL.out.new ((Below.refl _ _).alloc (Nat.le_refl _) _)).new hb2)
    clear hb hb2 hbx hbx2
    go_loopw [8] (fun v8 wr => ∃ r : Nat, r ≤ m ∧ v8 = .int .i64 r ∧ wr.cell? ⟨w1.heap.size, 2, none⟩ = some (.slice A2 m c2) ∧ Sl wr A2 3 m ((countSpans m).flatMap Span.cells) ∧ Below w.heap.size w wr) (fun v8 _ => m - (intOf v8).toNat)
    case atStart => exact ⟨0, by omega, rfl, HBX.out, HS2.out, HWW.out⟩
    case round =>
      obtain ⟨r, hr, rfl, hcell, hsl, hb⟩ := hrel
      have HS := hid hsl
      have HB := hid hb
      clear hsl hb
      by_cases hlt : r < m
      · have hg := count_gap m r hlt h2
        have HG := hid hg
        clear hg
        go_wp2_with (go_at_call 22; refine (gap_n m r A2 m c2 (countSpans m) _ (countSpans_len m) HS.out HSW.out).mono ?_; rw [HG.out]; rintro e w3 ⟨rfl, hb3⟩; rw [errV_zero]; have HB3 := hid hb3; clear hb3)
        go_roundw
        case rel => exact ⟨r + 1, by omega, by go_num, (HB3.out.cell (p := ⟨w1.heap.size, 2, none⟩) (cell_lt hcell)).trans hcell, HS.out.new HB3.out, HB.out.trans (HB3.out.mono HB.out.size)⟩
        case measure => simp [intOf]; omega
      · go_wp2_with fail
        go_ret
        exact ⟨rfl, HB.out⟩
end Go.Proofs.Ytfokcjooibmigaa
