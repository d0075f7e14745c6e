/- The walk of framelaw4.FlowChain: it returns true at every input. -/
import Derived.Test.YtfokcjooibmigaaChainLaw
namespace Go.Proofs.Ytfokcjooibmigaa
open Go.RowKit

theorem Try.infoWireC : (Try.prog.info? 32).map (fun i => (i.zero, i.size, i.bytes)) = some (some (.agg #[.int .i64 0, .int .i64 0, .int .i64 0, .int .i64 0]), 4, 32) := by kernel_rfl
theorem reach_c (a b m : Nat) (A : Option Addr) (c : Nat) (w : World) (hm : m ≤ 4) (ha : a ≤ m) (hb : b ≤ m) (hs : Sl w A 4 m ((chain m).flatMap Wire.cells)) (hsw : SlW A c m) :
    Calls Try.prog 17 #[.slice A m c, .int .i64 a, .int .i64 b] w (TellB w (decide (a ≤ b), 0)) := by
  have h := reach_any a b A c (chain m) w (by rw [chain_len]; exact hs) (by rw [chain_len]; exact hsw)
  rw [chain_len, chain_tellB hm ha hb] at h
  exact h
theorem ahead_c (a m : Nat) (A : Option Addr) (c : Nat) (w : World) (hm : m ≤ 4) (ha : a ≤ m) (hs : Sl w A 4 m ((chain m).flatMap Wire.cells)) (hsw : SlW A c m) :
    Calls Try.prog 19 #[.slice A m c, .int .i64 a] w fun e w' => ∃ A2 c2, e = .returned (.tuple #[.slice A2 (a + 1) c2, .nilIface]) ∧ Below w.heap.size w w' := by
  have h := ahead_any a A c (chain m) w (by rw [chain_len]; exact hs) (by rw [chain_len]; exact hsw)
  rw [chain_len, chain_tellL hm ha] at h
  refine h.mono fun e w' he => ?_
  obtain ⟨A2, c2, he, _, _, hb⟩ := he
  rw [chain_ahead ha hm] at he
  exact ⟨A2, c2, he, hb⟩

set_option maxHeartbeats 4000000 in
theorem flowChain_walk (n : Int) (w : World) : Calls Try.prog 7 #[.int .i64 n] w fun e w' => e = .returned (.bool true) ∧ Below w.heap.size w w' := by
  by_cases h1 : n < 1
  · go_enter Try.func7, Try.ntmps7
    go_wp2_with fail
    go_ret
    exact ⟨rfl, Below.refl _ _⟩
  by_cases h2 : 5 < n
  · go_enter Try.func7, Try.ntmps7
    go_wp2_with fail
    go_ret
    exact ⟨rfl, Below.refl _ _⟩
  obtain ⟨m, rfl⟩ : ∃ m : Nat, n = (m : Int) + 1 := ⟨(n - 1).toNat, by omega⟩
  have hm : m ≤ 4 := by omega
  obtain ⟨i0, hi0, hz0, hz1, hz2⟩ := info_parts Try.infoWireC
  go_enter Try.func7, Try.ntmps7
  go_wp2_with fail
  go_loopw [3, 4] (fun v3 v4 wr => ∃ (k : Nat) (A : Option Addr) (c : Nat), k ≤ m ∧ v4 = .int .i64 ((k : Int) + 1) ∧ v3 = .slice A k c ∧ Row wr 32 4 A k c ((chain k).flatMap Wire.cells) ∧ (∀ i, InA A i → w.heap.size ≤ i) ∧ Below w.heap.size w wr) (fun _ v4 _ => m + 1 - (intOf v4).toNat)
  case atStart => exact ⟨0, none, 0, by omega, rfl, rfl, Row.nil _ _ _, fun i h => by simp [InA] at h, Below.refl _ _⟩
  case round =>
    obtain ⟨k, A, c, hk, rfl, rfl, hrow, hnew, hb⟩ := hrel
    have HROW := hid hrow
    have HNEW := hid hnew
    have HB := hid hb
    clear hrow hnew hb
    by_cases hlt : k < m
    · go_wp2_with (first
        | (at_builtin
           refine wpList_append_row _ rfl (.tmp 22) (.tmp 27) 44 rfl 32 i0 (.agg #[.int .i64 0, .int .i64 0, .int .i64 0, .int .i64 0]) 4 32 Try.underlying44 hi0 hz0 hz1 hz2 rfl (by decide) A k c ((chain k).flatMap Wire.cells) rfl (by exact HROW.out.alloc _)
             (some ⟨wr.heap.size, 0, none⟩) 1 1 (chainW k).cells rfl (by exact ⟨rfl, fun _ => ⟨wr.heap.size, 0, rfl, by simp, fun j u hu => by rw [Nat.zero_add, blk_cell (heap_alloc_new wr _) j]; simpa [Wire.cells, chainW] using hu⟩⟩) (by intro u hu; simp [Wire.cells] at hu; rcases hu with rfl | rfl | rfl | rfl <;> rfl) (by unfold maxLen; omega) (by omega) ?_
           intro A1 c1 w1 hr1 hk1 hi1
           have HR1 := hid hr1
           have HK1 := hid hk1
           have HI1 := hid hi1
           clear hr1 hk1 hi1))
      go_roundw
      case rel =>
        have hs := HB.out.size
        refine ⟨k + 1, A1, c1, by omega, by go_num, rfl, ?_, fun i h => ?_, ?_⟩
        · rw [chain_succ, List.flatMap_append, List.flatMap_cons, List.flatMap_nil, List.append_nil]; exact HR1.out
        · rcases HI1.out i h with h | h
          · exact HNEW.out i h
          · simp at h; omega
        · exact (HB.out.alloc hs _).trans (HK1.out.below (by simp; omega) (fun i h => HNEW.out i h))
      case measure => simp [intOf]; omega
    · obtain rfl : k = m := by omega
      obtain ⟨wa, hwa⟩ : ∃ wa, wa = wr := ⟨_, rfl⟩
      subst hwa
      have hsw : SlW A c k := ⟨HROW.out.le.1, HROW.out.le.2, fun h => by
        rcases HROW.out.2 with ⟨_, h1, h2⟩ | ⟨_, _, _, h', _⟩
        · exact ⟨h1, h2⟩
        · rw [h'] at h; cases h⟩
      have HS := hid HROW.out.sl
      have HSW := hid hsw
      clear hsw
      go_wp2_with fail
      go_loopw [5, 6, 7, 8, 9, 10] (fun v5 v6 v7 v8 v9 v10 wr => ∃ a : Nat, a ≤ k + 1 ∧ v5 = .int .i64 a ∧ Below wa.heap.size wa wr) (fun v5 _ _ _ _ _ _ => k + 1 - (intOf v5).toNat)
      case atStart => exact ⟨0, by omega, rfl, Below.refl _ _⟩
      case round =>
        obtain ⟨a, ha, rfl, hb2⟩ := hrel
        have HB2 := hid hb2
        clear hb2
        by_cases hak : a < k + 1
        · have hai : (a : Int) < (k : Int) + 1 := by omega
          obtain ⟨wb, hwb⟩ : ∃ wb, wb = wr := ⟨_, rfl⟩
          subst hwb
          go_wp2_with fail
          go_loopw [6, 7, 8] (fun v6 v7 v8 wr => ∃ b : Nat, b ≤ k + 1 ∧ v6 = .int .i64 b ∧ Below wa.heap.size wa wr) (fun v6 _ _ _ => k + 1 - (intOf v6).toNat)
          case atStart => exact ⟨0, by omega, rfl, HB2.out⟩
          case round =>
            obtain ⟨b, hb, rfl, hb3⟩ := hrel
            have HB3 := hid hb3
            clear hb3
            by_cases hbk : b < k + 1
            · have hbi : (b : Int) < (k : Int) + 1 := by omega
              by_cases hab : a ≤ b
              · have hd : decide (a ≤ b) = true := by simpa using hab
                have HD := hid hd
                clear hd
                go_wp2_with (go_at_call 17; refine (reach_c a b k A c _ hm (by omega) (by omega) (HS.out.new HB3.out) HSW.out).mono ?_; rw [HD.out]; rintro e w4 ⟨rfl, hb4⟩; rw [errV_zero]; have HB4 := hid hb4; clear hb4)
                go_roundw
                case rel => exact ⟨b + 1, by omega, by go_num, HB3.out.trans (HB4.out.mono HB3.out.size)⟩
                case measure => simp [intOf]; omega
              · have hd : decide (a ≤ b) = false := by simpa using hab
                have HD := hid hd
                have hba : ¬ (a : Int) ≤ b := by omega
                clear hd
                go_wp2_with (go_at_call 17; refine (reach_c a b k A c _ hm (by omega) (by omega) (HS.out.new HB3.out) HSW.out).mono ?_; rw [HD.out]; rintro e w4 ⟨rfl, hb4⟩; rw [errV_zero]; have HB4 := hid hb4; clear hb4)
                go_roundw
                case rel => exact ⟨b + 1, by omega, by go_num, HB3.out.trans (HB4.out.mono HB3.out.size)⟩
                case measure => simp [intOf]; omega
            · obtain rfl : b = k + 1 := by omega
              go_wp2_with (go_at_call 19; refine (ahead_c a k A c _ hm (by omega) (HS.out.new HB3.out) HSW.out).mono ?_; rintro e w4 ⟨A4, c4, rfl, hb4⟩; have HB4 := hid hb4; clear hb4)
              go_roundw
              case rel => exact ⟨a + 1, by omega, by go_num, HB3.out.trans (HB4.out.mono HB3.out.size)⟩
              case measure => simp [intOf]; omega
        · obtain rfl : a = k + 1 := by omega
          go_wp2_with fail
          go_ret
          exact ⟨rfl, HB.out.trans (HB2.out.mono HB.out.size)⟩
end Go.Proofs.Ytfokcjooibmigaa
