/- The walk of framelaw4.WireFull: it returns true at every input. -/
import Derived.Test.YtfokcjooibmigaaLine2
namespace Go.Proofs.Ytfokcjooibmigaa
open Go.RowKit

theorem wf_dec (i d : Nat) (h : i < d) : decide ((i : Int) < (d : Int)) = true := by simp; exact h

set_option maxHeartbeats 1000000 in
theorem wireFull_walk (deep n : Int) (w : World) : Calls Try.prog 4 #[.int .i64 deep, .int .i64 n] w fun e w' => e = .returned (.bool true) ∧ Below w.heap.size w w' := by
  by_cases hc : wireChk ⟨0, 1, 2, deep⟩ = 0
  · have hd : 1 ≤ deep ∧ deep ≤ 6 := by
      by_cases h : 1 ≤ deep ∧ deep ≤ 6
      · exact h
      · exfalso
        have : wireChk ⟨0, 1, 2, deep⟩ = 1 := by unfold wireChk; rw [if_pos (by simp; omega)]
        omega
    obtain ⟨hd1, hd6⟩ := hd
    have HC := hid hc
    clear hc
    by_cases hn : n < 0 ∨ 100 < n
    · rcases hn with hn | hn
      · go_enter Try.func4, Try.ntmps4
        go_wp2_with (go_at_call 12; refine (new_ok ⟨0, 1, 2, deep⟩ _ HC.out).mono ?_; rintro e w1 ⟨b, rfl, hb1, hl1, hw1⟩)
        go_ret
        exact ⟨rfl, hw1⟩
      · go_enter Try.func4, Try.ntmps4
        go_wp2_with (go_at_call 12; refine (new_ok ⟨0, 1, 2, deep⟩ _ HC.out).mono ?_; rintro e w1 ⟨b, rfl, hb1, hl1, hw1⟩)
        all_goals go_ret
        all_goals exact ⟨rfl, hw1⟩
    · obtain ⟨m, rfl⟩ : ∃ m : Nat, n = m := ⟨n.toNat, by omega⟩
      obtain ⟨d, rfl⟩ : ∃ d : Nat, deep = d := ⟨deep.toNat, by omega⟩
      have hn0 : m ≤ 100 := by omega
      clear hn
      go_enter Try.func4, Try.ntmps4
      go_wp2_with (go_at_call 12; refine (new_ok ⟨0, 1, 2, d⟩ _ HC.out).mono ?_; rintro e w1 ⟨b, rfl, hb1, hl1, hw1⟩)
      have HL := hid hl1
      have HW := hid hw1
      clear hl1 hw1
      go_loopw [7] (fun v7 wr => ∃ k : Nat, k ≤ m ∧ v7 = .int .i64 k ∧ ∃ A items lost, LineAt wr b A ⟨0, 1, 2, d⟩ items lost ∧ (∀ i, LF b A i → w.heap.size ≤ i) ∧ items.length = min k d ∧ lost = ((k - d : Nat) : Int) ∧ Below w.heap.size w wr) (fun v7 _ => m - (intOf v7).toNat)
      case atStart => exact ⟨0, by omega, rfl, none, [], 0, HL.out, (by rintro i (rfl | h); exact hb1; simp [InA] at h), by simp, by simp, HW.out⟩
      case round =>
        obtain ⟨k, hk, rfl, A, items, lost, hl, hlf, hi, hlo, hw⟩ := hrel
        have HLF := hid hlf
        clear hlf
        have HL := hid hl
        have HI := hid hi
        have HLO := hid hlo
        have HW := hid hw
        clear hl hi hlo hw
        by_cases hlt : k < m
        · by_cases hkd : k < d
          · go_wp2_with (go_at_call 13; refine (send_room b k _ A ⟨0, 1, 2, d⟩ items lost (by omega) (by omega) rfl (by have := HI.out; simp; omega) (by have := HI.out; omega) HL.out).mono ?_; rintro e w2 ⟨A2, rfl, hl2, hk2, hi2⟩)
            go_roundw
            case rel => exact ⟨k + 1, by omega, by go_num, A2, _, _, hl2, (by rintro i (rfl | h); exact HLF.out _ (.inl rfl); rcases hi2 i h with h | h; exact HLF.out _ (.inr h); have := HW.out.size; omega), by have := HI.out; simp; omega, by have := HLO.out; show lost = _; omega, HW.out.trans (hk2.below HW.out.size (fun i h => HLF.out i h))⟩
            case measure => simp [intOf]; omega
          · go_wp2_with (go_at_call 13; refine (send_full b k _ A ⟨0, 1, 2, d⟩ items lost (by omega) (by omega) rfl (by have := HI.out; simp; omega) (by have := HI.out; omega) (by have := HLO.out; omega) (by have := HLO.out; omega) HL.out).mono ?_; rintro e w2 ⟨A2, rfl, hl2, hk2, hi2⟩)
            go_roundw
            case rel => exact ⟨k + 1, by omega, by go_num, A2, _, _, hl2, (by rintro i (rfl | h); exact HLF.out _ (.inl rfl); rcases hi2 i h with h | h; exact HLF.out _ (.inr h); have := HW.out.size; omega), by have := HI.out; show items.length = _; omega, by have := HLO.out; show lost + 1 = _; omega, HW.out.trans (hk2.below HW.out.size (fun i h => HLF.out i h))⟩
            case measure => simp [intOf]; omega
        · obtain rfl : k = m := by omega
          by_cases hkd : k ≤ d
          · have e1 : ((items.length : Int) == (k : Int)) = true := by rw [beq_iff_eq]; have := HI.out; omega
            have e2 : (lost == 0) = true := by rw [beq_iff_eq]; have := HLO.out; omega
            go_wp2_with (go_at_call 14; refine (held_any b _ A ⟨0, 1, 2, d⟩ items lost (by have := HI.out; omega) HL.out).mono ?_; rintro e w2 ⟨A2, cap2, rfl, hr2, hn2, hb2⟩)
            go_ret
            exact ⟨rfl, (HW.out.trans (hb2.mono HW.out.size)).alloc (by have h1 := HW.out.size; have h2 := hb2.size; omega) _⟩
          · have e1 : ((items.length : Int) == (d : Int)) = true := by rw [beq_iff_eq]; have := HI.out; omega
            have e2 : (lost == (k : Int) - (d : Int)) = true := by rw [beq_iff_eq]; have := HLO.out; omega
            have e3 : (0 : Int) ≤ (k : Int) - (d : Int) := by omega
            go_wp2_with (go_at_call 14; refine (held_any b _ A ⟨0, 1, 2, d⟩ items lost (by have := HI.out; omega) HL.out).mono ?_; rintro e w2 ⟨A2, cap2, rfl, hr2, hn2, hb2⟩)
            go_ret
            exact ⟨rfl, (HW.out.trans (hb2.mono HW.out.size)).alloc (by have h1 := HW.out.size; have h2 := hb2.size; omega) _⟩
  · have hd : deep < 1 ∨ 6 < deep := by
      by_cases h : 1 ≤ deep ∧ deep ≤ 6
      · exfalso
        apply hc
        unfold wireChk
        rw [if_neg (by simp [roomB]; omega), if_neg (by simp)]
      · omega
    have h1 : wireChk ⟨0, 1, 2, deep⟩ = 1 := by unfold wireChk; rw [if_pos (by simp; omega)]
    have H1 := hid h1
    have HC := hid hc
    clear hc h1
    rcases hd with hd | hd <;>
    · go_enter Try.func4, Try.ntmps4
      go_wp2_with (go_at_call 12; refine (new_bad ⟨0, 1, 2, deep⟩ _ HC.out).mono ?_; rw [H1.out]; rintro e w1 ⟨rfl, hw1⟩; rw [errV_pos (by decide)])
      all_goals go_ret
      all_goals exact ⟨rfl, hw1⟩
end Go.Proofs.Ytfokcjooibmigaa
