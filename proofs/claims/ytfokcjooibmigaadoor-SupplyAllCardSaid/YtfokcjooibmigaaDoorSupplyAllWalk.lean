/- The walk of framelaw4.SupplyAll: it returns true at every input. -/
import Derived.Test.YtfokcjooibmigaaDoorSupply2
import Derived.Test.YtfokcjooibmigaaDoorTold
namespace Go.Proofs.YtfokcjooibmigaaDoor
open Go.RowKit
set_option maxRecDepth 100000

def allSpan (T : Int) : List Span := [⟨0, T, 0⟩]
theorem all_ok {T : Int} (h1 : 1 ≤ T) (h2 : T ≤ 40) : (frameChk T (allSpan T)).2 = 0 := by
  unfold frameChk
  rw [if_neg (by omega), if_neg (by simp [allSpan])]
  have hb : spanBad T ⟨0, T, 0⟩ = false := by
    unfold spanBad
    rw [decide_eq_false (by simp only []; omega), show roomB 0 = true by decide]; rfl
  show (spansChk T (allSpan T) 2 0).2 = 0
  rw [spansChk_next (s := ⟨0, T, 0⟩) rfl hb rfl, spansChk_end (by simp [allSpan])]
theorem all_bad {T : Int} (h : T < 1 ∨ 40 < T) : (frameChk T (allSpan T)).2 = 1 := by
  unfold frameChk; rw [if_pos h]
theorem all_hit {T : Nat} (hT : 0 < T) (t : Nat) : turnAt (allSpan T) ((t : Int) % (T : Int)) = 0 := by
  have h0 := Int.emod_nonneg (t : Int) (show (T : Int) ≠ 0 by omega)
  have h1 := Int.emod_lt_of_pos (t : Int) (show 0 < (T : Int) by omega)
  simp [turnAt, allSpan, h0, h1]
theorem all_cnt {T : Nat} (hT : 0 < T) (f : Nat) : ∀ m, cntH (hitB (allSpan T) T 0) f m = m
  | 0 => rfl
  | m + 1 => by
    rw [cntH_succ, all_cnt hT f m]
    have : hitB (allSpan T) T 0 (f + m) = true := by unfold hitB; rw [all_hit hT]; rfl
    rw [this]; rfl
theorem none_cnt {T : Nat} (hT : 0 < T) (f : Nat) : ∀ m, cntH (hitB (allSpan T) T 1) f m = 0
  | 0 => rfl
  | m + 1 => by
    rw [cntH_succ, none_cnt hT f m]
    have : hitB (allSpan T) T 1 (f + m) = false := by unfold hitB; rw [all_hit hT]; rfl
    rw [this]; rfl
theorem all_least {T : Nat} (hT : 0 < T) (m : Nat) : leastH (hitB (allSpan T) T 0) T m = m := by
  obtain ⟨f, _, h⟩ := leastH_ex (h := hitB (allSpan T) T 0) hT m
  rw [h, all_cnt hT]
theorem all_waits {T : Nat} (hT : 0 < T) (n : Nat) : Waits (hitB (allSpan T) T 0) T n n := by
  refine ⟨by rw [all_least hT]; exact Nat.le_refl _, fun h => ?_⟩
  rw [all_least hT]; omega
theorem ready_bad {T room : Int} (h : T < 1 ∨ 40 < T) : readyOf T (allSpan T) room = 1 := by
  unfold readyOf; rw [all_bad h]; simp
theorem ready_all {T : Int} (h1 : 1 ≤ T) (h2 : T ≤ 40) (room : Int) (hr : roomB room = true) : readyOf T (allSpan T) room = 0 := by
  unfold readyOf; rw [if_neg (by simp [all_ok h1 h2]), if_neg (by simp [hr])]

set_option maxHeartbeats 4000000 in
theorem supplyAll_walk {w : World} (hg : Handle w) (T m : Int) : Calls Tryd.prog 9 #[.int .i64 T, .int .i64 m] w fun e w' => e = .returned (.bool true) ∧ Below w.heap.size w w' := by
  have HG := hid hg
  clear hg
  go_enter Tryd.func9, Tryd.ntmps9
  go_wp2_with fail
  obtain ⟨w0, hw0⟩ : ∃ w0, w0 = w.alloc (Obj.cells #[.int .i64 0, .int .i64 T, .int .i64 0] 69) := ⟨_, rfl⟩
  rw [← hw0]
  have HB0 : Hid (Below w.heap.size w w0) := by rw [hw0]; exact (Below.refl _ _).alloc (Nat.le_refl _) _
  have hso : Sl w0 (some ⟨w.heap.size, 0, none⟩) 3 1 ((allSpan T).flatMap Span.cells) := by
    rw [hw0]
    exact ⟨rfl, fun _ => ⟨_, 0, rfl, by simp, fun j u hu => by rw [Nat.zero_add, blk_cell (heap_alloc_new w _) j]; simpa [allSpan, Span.cells] using hu⟩⟩
  have HSO := hid hso
  have hsw : SlW (some ⟨w.heap.size, 0, none⟩) 1 1 := ⟨by omega, by simp [maxLen], by simp⟩
  clear hw0 hso
  refine (sup_least T 0 m _ 1 1 (allSpan T) w0 rfl HSO.out hsw).mono ?_
  by_cases hT : T < 1 ∨ 40 < T
  · rw [show supLeastOf T (allSpan T) 0 m = (0, 1) by unfold supLeastOf; rw [ready_bad hT]; rfl]
    rintro e w1 ⟨rfl, hb1⟩
    rw [show errV (0, 1).2 = .iface 84 (.int .i64 1) from rfl]
    have HB1 := hid (HB0.out.trans (hb1.mono HB0.out.size))
    clear hb1
    by_cases h1 : T < 1
    · clear hT
      go_wp2_with fail
      go_ret
      exact ⟨rfl, HB1.out⟩
    · have h2 : 40 < T := by omega
      clear hT
      go_wp2_with fail
      go_ret
      exact ⟨rfl, HB1.out⟩
  · have h1 : 1 ≤ T := by omega
    have h2 : T ≤ 40 := by omega
    clear hT
    obtain ⟨n, rfl⟩ : ∃ n : Nat, T = n := ⟨T.toNat, by omega⟩
    have hr0 := ready_all h1 h2 0 (by decide)
    have hr1 := ready_all h1 h2 1 (by decide)
    have hn : 0 < n := by omega
    by_cases hm : 0 ≤ m ∧ m ≤ 2000
    · obtain ⟨k, rfl⟩ : ∃ k : Nat, m = k := ⟨m.toNat, by omega⟩
      rw [show supLeastOf n (allSpan n) 0 k = ((k : Int), 0) by
        unfold supLeastOf
        rw [if_neg (by simp [hr0]), if_pos hm]
        simp [all_least hn]]
      rintro e w1 ⟨rfl, hb1⟩
      rw [show errV ((k : Int), (0 : Int)).2 = .nilIface from rfl]
      have HB1 := hid hb1
      clear hb1
      by_cases h100 : 100 < k
      · have hi : (100 : Int) < k := by omega
        clear hr0 hr1 hm
        go_wp2_with fail
        go_ret
        exact ⟨by first | rfl | simp, HB0.out.trans (HB1.out.mono HB0.out.size)⟩
      · have hi : ¬ (100 : Int) < k := by omega
        have HR0 := hid hr0
        have HR1 := hid hr1
        clear hr0 hr1 hm
        go_wp2_with fail
        refine (sup_wait n 0 k _ 1 1 (allSpan n) w1 rfl (HSO.out.new HB1.out) hsw).mono ?_
        rintro e w2 ⟨hb2, hc2⟩
        rw [if_neg (by simp [HR0.out]), if_neg (by omega), if_neg (by simp only [Int.toNat_natCast]; rw [all_cnt hn]; omega)] at hc2
        obtain ⟨v, rfl, hv, _⟩ := hc2
        simp only [Int.toNat_natCast] at hv
        obtain rfl := Waits.eq hn hv (all_waits hn k)
        rw [errV_zero]
        have HB2 := hid (HB1.out.trans (hb2.mono HB1.out.size))
        clear hv hb2
        go_wp2_with fail
        refine (sup_wait n 1 1 _ 1 1 (allSpan n) w2 rfl (HSO.out.new HB2.out) hsw).mono ?_
        rintro e w3 ⟨hb3, hc3⟩
        rw [if_neg (by simp [HR1.out]), if_neg (by omega), if_pos ⟨by omega, by simp only [Int.toNat_natCast]; rw [none_cnt hn]⟩] at hc3
        subst hc3
        have HB3 := hid (HB2.out.trans (hb3.mono HB2.out.size))
        clear hb3
        go_wp2_with (go_at_call 12; refine (error_same 5 _ (HG.out.new (HB0.out.trans (HB3.out.mono HB0.out.size)))).mono ?_; rintro e w4 ⟨rfl, hb4⟩; have HB4 := hid (HB3.out.trans (hb4.mono HB3.out.size)); clear hb4)
        go_ret
        exact ⟨by first | rfl | simp, HB0.out.trans (HB4.out.mono HB0.out.size)⟩
    · rw [show supLeastOf n (allSpan n) 0 m = (0, 1) by unfold supLeastOf; rw [if_neg (by simp [hr0]), if_neg hm]]
      rintro e w1 ⟨rfl, hb1⟩
      rw [show errV (0, 1).2 = .iface 84 (.int .i64 1) from rfl]
      have HB1 := hid (HB0.out.trans (hb1.mono HB0.out.size))
      clear hb1 hr0 hr1
      by_cases hm0 : m < 0
      · clear hm
        go_wp2_with fail
        go_ret
        exact ⟨rfl, HB1.out⟩
      · have hm1 : 2000 < m := by omega
        clear hm
        go_wp2_with fail
        go_ret
        exact ⟨by first | rfl | simp [hm1], HB1.out⟩
end Go.Proofs.YtfokcjooibmigaaDoor
