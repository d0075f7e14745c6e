/- Package snap: the contract of words; and the library's strings.Lines. Conditions: none. -/
import Derived.Test.YtikadpfchchbpaaGreatDoorCutW
import Derived.Test.YtikadpfchchbpaaGreatDoorOpen2
import Derived.Deep.DeepCutAuto
namespace Go.Proofs.YtikadpfchchbpaaGreatDoor
open Go.RowKit
set_option maxRecDepth 100000

theorem lines_made (s : ByteArray) (w : World) :
    Calls Tryz.prog 36 #[.string s] w fun e w' => e = .returned (.func (.func 66) #[] #[.pointer (some ⟨w.heap.size, 0, none⟩)]) ∧ w' = w.alloc (.cells #[.string s] 9) := by
  go_enter Tryz.func36, Tryz.ntmps36
  go_wp2
  go_ret
  exact ⟨rfl, rfl⟩

/-- Midway: so many words are laid, in new memory; the plan's box lies as it lay. -/
structure WordsAt (w : World) (bx : Obj) (wr : World) (A : Option Addr) (n c : Nat) : Prop where
  row : ∃ xs, Row wr 9 1 A n c xs
  fresh : ∀ i, InA A i → w.heap.size + 1 ≤ i
  box : wr.heap[w.heap.size]? = some bx
  below : Below w.heap.size w wr
theorem WordsAt.more {w : World} {bx o : Obj} {wr w1 : World} {A A' : Option Addr} {n n' c c' : Nat} {xs : List Value} (h : WordsAt w bx wr A n c) (hr : Row w1 9 1 A' n' c' xs) (hk : Keep (InA A) (wr.alloc o) w1) (hn : ∀ k, InA A' k → InA A k ∨ (wr.alloc o).heap.size ≤ k) : WordsAt w bx w1 A' n' c' := by
  have hs := h.below.size
  have hl := blk_lt h.box
  refine ⟨⟨xs, hr⟩, fun i hi => ?_, ?_, (h.below.alloc hs o).trans (Keep.below hk (by rw [sz_alloc]; omega) fun i hi => by have := h.fresh i hi; omega)⟩
  · rcases hn i hi with h1 | h1
    · exact h.fresh i h1
    · rw [sz_alloc] at h1; omega
  · rw [hk.block _ (by rw [sz_alloc]; omega) (fun hi => by have := h.fresh _ hi; omega), blk_alloc hl]
    exact h.box

set_option maxHeartbeats 4000000 in
theorem swords_any (w : World) (A0 A2 A3 : Option Addr) (n0 c0 n2 c2 n3 c3 : Nat) (v1 : Int) (h0 : n0 ≤ 1000) (h3 : n3 ≤ 1000) :
    Calls Tryz.prog 35 #[.agg #[.slice A0 n0 c0, .int .i64 v1, .slice A2 n2 c2, .slice A3 n3 c3]] w fun e w' => ∃ A c, e = .returned (.slice A (1 + n0 + n3) c) ∧ Below w.heap.size w w' := by
  obtain ⟨i0, hi0, hz0, hz1, hz2⟩ := info_parts Tryz.infoStr
  obtain ⟨bx, hbx⟩ : ∃ bx : Obj, bx = .cells #[.slice A0 n0 c0, .int .i64 v1, .slice A2 n2 c2, .slice A3 n3 c3] 26 (0, 0) := ⟨_, rfl⟩
  have HBX := hid hbx
  clear hbx
  go_enter Tryz.func35, Tryz.ntmps35
  go_upto_region 3 with fail
  obtain ⟨w1, hw1⟩ : ∃ w1, w1 = (w.alloc (.cells #[.slice A0 n0 c0, .int .i64 v1, .slice A2 n2 c2, .slice A3 n3 c3] 26)).alloc (.cells #[.string ⟨#[116, 105, 109, 101]⟩] 9) := ⟨_, rfl⟩
  have hst : WordsAt w bx w1 (some ⟨w.heap.size + 1, 0, none⟩) 1 1 := by
    have hn := heap_alloc_new (w.alloc (.cells #[.slice A0 n0 c0, .int .i64 v1, .slice A2 n2 c2, .slice A3 n3 c3] 26)) (.cells #[.string ⟨#[116, 105, 109, 101]⟩] 9)
    rw [sz_alloc, ← hw1] at hn
    refine ⟨⟨[.string ⟨#[116, 105, 109, 101]⟩], rfl, .inr ⟨_, 0, _, rfl, hn, Nat.le_refl _, by decide, by simp, fun j u hu => ?_⟩⟩, fun i hi => ?_, ?_, ?_⟩
    · rw [Nat.zero_add]; simpa using hu
    · simp [InA] at hi; omega
    · rw [hw1, blk_alloc (by simp), HBX.out]; exact heap_alloc_new w _
    · rw [hw1]; exact ((Below.refl _ _).alloc (Nat.le_refl _) _).alloc (by simp) _
  have hbox := hst.box
  rw [HBX.out] at hbox
  have HST := hid hst
  rw [← hw1]
  clear hw1 hst hbox
  go_loopw [3, 8] (fun v3 v8 wr => ∃ (j N : Nat) (A : Option Addr) (c : Nat), j ≤ n0 ∧ v3 = .slice A N c ∧ v8 = .int .i64 j ∧ N = 1 + j ∧ WordsAt w bx wr A N c) (fun _ v8 _ => n0 - (intOf v8).toNat)
  case atStart => exact ⟨0, _, _, _, by omega, rfl, rfl, by omega, HST.out⟩
  case round =>
    obtain ⟨j, N, A, c, hj, rfl, rfl, hN, hwa⟩ := hrel
    have HW := hid hwa
    obtain ⟨xs, hrow⟩ := hwa.row
    clear hwa
    by_cases hjn : j < n0
    · go_wp2_with (at_builtin; refine wpList_append_row _ rfl _ _ 40 rfl 9 i0 (.string ⟨#[]⟩) 1 16 Tryz.underlying40 hi0 hz0 hz1 hz2 rfl (by decide) A N c xs rfl (hrow.alloc _) (some ⟨wr.heap.size, 0, none⟩) 1 1 [.string ⟨#[114, 111, 111, 109]⟩] rfl (one_sl wr _ _) (by intro u hu; simp at hu; subst hu; rfl) (by unfold maxLen; omega) (by omega) ?_)
      intro A' c' w2 hr2 hk2 hi2
      have HW2 := hid (HW.out.more hr2 hk2 (fun k hk => by rw [sz_alloc]; exact hi2 k hk))
      clear hr2 hk2 hi2 hrow HW
      go_wp2_with fail
      go_roundw
      case rel => exact ⟨j + 1, _, A', c', by omega, rfl, by go_num, by omega, HW2.out⟩
      case measure => simp [intOf]; omega
    · obtain rfl : j = n0 := by omega
      clear hrow
      have hbox := HW.out.box
      rw [HBX.out] at hbox
      have x3 := blk_cell hbox 3
      have hlx := blk_lt hbox
      simp at x3
      clear hbox hjn
      go_wp2_with fail
      go_loopw [3, 17] (fun v3 v17 wr => ∃ (q N : Nat) (A : Option Addr) (c : Nat), q ≤ n3 ∧ v3 = .slice A N c ∧ v17 = .int .i64 q ∧ N = (1 + j) + q ∧ WordsAt w bx wr A N c) (fun _ v17 _ => n3 - (intOf v17).toNat)
      case atStart => exact ⟨0, _, _, _, by omega, rfl, rfl, by omega, HW.out⟩
      case round =>
        obtain ⟨q, N2, A2', cc, hq, rfl, rfl, hN2, hwa⟩ := hrel
        have HW := hid hwa
        obtain ⟨xs, hrow⟩ := hwa.row
        clear hwa
        by_cases hqn : q < n3
        · go_wp2_with (at_builtin; refine wpList_append_row _ rfl _ _ 40 rfl 9 i0 (.string ⟨#[]⟩) 1 16 Tryz.underlying40 hi0 hz0 hz1 hz2 rfl (by decide) A2' N2 cc xs rfl (hrow.alloc _) (some ⟨wr.heap.size, 0, none⟩) 1 1 [.string ⟨#[119, 105, 114, 101]⟩] rfl (one_sl wr _ _) (by intro u hu; simp at hu; subst hu; rfl) (by unfold maxLen; omega) (by omega) ?_)
          intro A' c' w2 hr2 hk2 hi2
          have HW2 := hid (HW.out.more hr2 hk2 (fun k hk => by rw [sz_alloc]; exact hi2 k hk))
          clear hr2 hk2 hi2 hrow HW
          go_wp2_with fail
          go_roundw
          case rel => exact ⟨q + 1, _, A', c', by omega, rfl, by go_num, by omega, HW2.out⟩
          case measure => simp [intOf]; omega
        · obtain rfl : q = n3 := by omega
          clear hrow
          go_wp2_with fail
          go_ret
          subst hN2
          exact ⟨A2', cc, rfl, HW.out.below⟩
end Go.Proofs.YtikadpfchchbpaaGreatDoor
