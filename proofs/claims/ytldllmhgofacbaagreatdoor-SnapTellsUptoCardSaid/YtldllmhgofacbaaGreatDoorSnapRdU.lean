/- Several parts: each begins with what it says. -/
import Derived.Test.YtldllmhgofacbaaGreatDoorDeskU
import Derived.Test.YtldllmhgofacbaaGreatDoorOpen2
import Derived.Deep.DeepCutAuto
import Derived.Test.YtldllmhgofacbaaGreatDoorRangeU
import Derived.Shelf.Abstract
import Derived.Shelf.RegionOpen
import Derived.WalkKit
import Derived.OwnWalkIn
import Derived.TacticsInMore
import Derived.LoopNIn
import Derived.LoopIn
import Derived.RangeFuncBox
import Derived.BigRegionIn
/- Package snap: the contract of words; and the library's strings.Lines. Conditions: none. -/
namespace Go.Proofs.YtldllmhgofacbaaGreatDoor
open Go.RowKit
set_option maxRecDepth 100000

theorem lines_made0 (s : ByteArray) (w : World) :
    Calls Tryz.prog 75 #[.string s] w fun e w' => e = .returned (.func (.func 120) #[] #[.pointer (some ⟨w.heap.size, 0, none⟩)]) ∧ w' = w.alloc (.cells #[.string s] 9) := by
  go_enter Tryz.func75, Tryz.ntmps75
  go_wp2
  go_ret
  exact ⟨rfl, rfl⟩

/-- Midway: so many words are laid, in new memory; the plan's box lies as it lay. -/
structure WordsAt (w : World) (bx : Obj) (wr : World) (A : Option Addr) (n c : Nat) : Prop where
  row : ∃ xs, Row wr 9 1 A n c xs
  fresh : ∀ i, InA A i → w.heap.size + 1 ≤ i
  box : wr.heap[w.heap.size]? = some bx
  below : Below w.heap.size w wr
theorem WordsAt.more {w : World} {bx o : Obj} {wr w1 : World} {A A' : Option Addr} {n n' c c' : Nat} {xs : List Value} (h : WordsAt w bx wr A n c) (hr : Row w1 9 1 A' n' c' xs) (hk : Keep (InA A) (wr.alloc o) w1) (hn : ∀ k, InA A' k → InA A k ∨ (wr.alloc o).heap.size ≤ k) : WordsAt w bx w1 A' n' c' := by
  have hs := h.below.size
  have hl := blk_lt h.box
  refine ⟨⟨xs, hr⟩, fun i hi => ?_, ?_, (h.below.alloc hs o).trans (Keep.below hk (by rw [sz_alloc]; omega) fun i hi => by have := h.fresh i hi; omega)⟩
  · rcases hn i hi with h1 | h1
    · exact h.fresh i h1
    · rw [sz_alloc] at h1; omega
  · rw [hk.block _ (by rw [sz_alloc]; omega) (fun hi => by have := h.fresh _ hi; omega), blk_alloc hl]
    exact h.box

set_option maxHeartbeats 4000000 in
theorem swords_any (w : World) (A0 A2 A3 : Option Addr) (n0 c0 n2 c2 n3 c3 : Nat) (v1 : Int) (h0 : n0 ≤ 1000) (h3 : n3 ≤ 1000) :
    Calls Tryz.prog 134 #[.agg #[.slice A0 n0 c0, .int .i64 v1, .slice A2 n2 c2, .slice A3 n3 c3]] w fun e w' => ∃ A c, e = .returned (.slice A (1 + n0 + n3) c) ∧ Below w.heap.size w w' := by
  obtain ⟨i0, hi0, hz0, hz1, hz2⟩ := info_parts Tryz.infoStr
  obtain ⟨bx, hbx⟩ : ∃ bx : Obj, bx = .cells #[.slice A0 n0 c0, .int .i64 v1, .slice A2 n2 c2, .slice A3 n3 c3] 26 (0, 0) := ⟨_, rfl⟩
  have HBX := hid hbx
  clear hbx
  go_enter Tryz.func134, Tryz.ntmps134
  go_upto_region 3 with fail
  obtain ⟨w1, hw1⟩ : ∃ w1, w1 = (w.alloc (.cells #[.slice A0 n0 c0, .int .i64 v1, .slice A2 n2 c2, .slice A3 n3 c3] 26)).alloc (.cells #[.string ⟨#[116, 105, 109, 101]⟩] 9) := ⟨_, rfl⟩
  have hst : WordsAt w bx w1 (some ⟨w.heap.size + 1, 0, none⟩) 1 1 := by
    have hn := heap_alloc_new (w.alloc (.cells #[.slice A0 n0 c0, .int .i64 v1, .slice A2 n2 c2, .slice A3 n3 c3] 26)) (.cells #[.string ⟨#[116, 105, 109, 101]⟩] 9)
    rw [sz_alloc, ← hw1] at hn
    refine ⟨⟨[.string ⟨#[116, 105, 109, 101]⟩], rfl, .inr ⟨_, 0, _, rfl, hn, Nat.le_refl _, by decide, by simp, fun j u hu => ?_⟩⟩, fun i hi => ?_, ?_, ?_⟩
    · rw [Nat.zero_add]; simpa using hu
    · simp [InA] at hi; omega
    · rw [hw1, blk_alloc (by simp), HBX.out]; exact heap_alloc_new w _
    · rw [hw1]; exact ((Below.refl _ _).alloc (Nat.le_refl _) _).alloc (by simp) _
  have hbox := hst.box
  rw [HBX.out] at hbox
  have HST := hid hst
  rw [← hw1]
  clear hw1 hst hbox
  go_loopw [3, 8] (fun v3 v8 wr => ∃ (j N : Nat) (A : Option Addr) (c : Nat), j ≤ n0 ∧ v3 = .slice A N c ∧ v8 = .int .i64 j ∧ N = 1 + j ∧ WordsAt w bx wr A N c) (fun _ v8 _ => n0 - (intOf v8).toNat)
  case atStart => exact ⟨0, _, _, _, by omega, rfl, rfl, by omega, HST.out⟩
  case round =>
    obtain ⟨j, N, A, c, hj, rfl, rfl, hN, hwa⟩ := hrel
    have HW := hid hwa
    obtain ⟨xs, hrow⟩ := hwa.row
    clear hwa
    by_cases hjn : j < n0
    · go_wp2_with (at_builtin; refine wpList_append_row _ rfl _ _ 78 rfl 9 i0 (.string ⟨#[]⟩) 1 16 Tryz.underlying78 hi0 hz0 hz1 hz2 rfl (by decide) A N c xs rfl (hrow.alloc _) (some ⟨wr.heap.size, 0, none⟩) 1 1 [.string ⟨#[114, 111, 111, 109]⟩] rfl (one_sl wr _ _) (by intro u hu; simp at hu; subst hu; rfl) (by unfold maxLen; omega) (by omega) ?_)
      intro A' c' w2 hr2 hk2 hi2
      have HW2 := hid (HW.out.more hr2 hk2 (fun k hk => by rw [sz_alloc]; exact hi2 k hk))
      clear hr2 hk2 hi2 hrow HW
      go_wp2_with fail
      go_roundw
      case rel => exact ⟨j + 1, _, A', c', by omega, rfl, by go_num, by omega, HW2.out⟩
      case measure => simp [intOf]; omega
    · obtain rfl : j = n0 := by omega
      clear hrow
      have hbox := HW.out.box
      rw [HBX.out] at hbox
      have x3 := blk_cell hbox 3
      have hlx := blk_lt hbox
      simp at x3
      clear hbox hjn
      go_wp2_with fail
      go_loopw [3, 17] (fun v3 v17 wr => ∃ (q N : Nat) (A : Option Addr) (c : Nat), q ≤ n3 ∧ v3 = .slice A N c ∧ v17 = .int .i64 q ∧ N = (1 + j) + q ∧ WordsAt w bx wr A N c) (fun _ v17 _ => n3 - (intOf v17).toNat)
      case atStart => exact ⟨0, _, _, _, by omega, rfl, rfl, by omega, HW.out⟩
      case round =>
        obtain ⟨q, N2, A2', cc, hq, rfl, rfl, hN2, hwa⟩ := hrel
        have HW := hid hwa
        obtain ⟨xs, hrow⟩ := hwa.row
        clear hwa
        by_cases hqn : q < n3
        · go_wp2_with (at_builtin; refine wpList_append_row _ rfl _ _ 78 rfl 9 i0 (.string ⟨#[]⟩) 1 16 Tryz.underlying78 hi0 hz0 hz1 hz2 rfl (by decide) A2' N2 cc xs rfl (hrow.alloc _) (some ⟨wr.heap.size, 0, none⟩) 1 1 [.string ⟨#[119, 105, 114, 101]⟩] rfl (one_sl wr _ _) (by intro u hu; simp at hu; subst hu; rfl) (by unfold maxLen; omega) (by omega) ?_)
          intro A' c' w2 hr2 hk2 hi2
          have HW2 := hid (HW.out.more hr2 hk2 (fun k hk => by rw [sz_alloc]; exact hi2 k hk))
          clear hr2 hk2 hi2 hrow HW
          go_wp2_with fail
          go_roundw
          case rel => exact ⟨q + 1, _, A', c', by omega, rfl, by go_num, by omega, HW2.out⟩
          case measure => simp [intOf]; omega
        · obtain rfl : q = n3 := by omega
          clear hrow
          go_wp2_with fail
          go_ret
          subst hN2
          exact ⟨A2', cc, rfl, HW.out.below⟩
end Go.Proofs.YtldllmhgofacbaaGreatDoor

/- strings.Lines' iterator over the empty text: no line comes. Conditions: none. -/
namespace Go.Proofs.YtldllmhgofacbaaGreatDoor
open Go.RowKit Go.Shelf
set_option maxRecDepth 100000
attribute [local go_sem] Oper.semAt_some

set_option maxHeartbeats 1000000 in
theorem lines_none {α : Type} (encs : α → Array Value) (n t T : Nat) (w : World) (ht : w.heap[t]? = some (.cells #[.string ⟨#[]⟩] T (0, 0))) :
    GivesAll Fence.wide n Tryz.prog 120 #[.pointer (some ⟨t, 0, none⟩)] encs t ([] : List α) w := by
  intro l J Jx W hW hJ hJx hJs hJxs hY h0
  have hl := blk_lt ht
  have hb := (hW.block _ hl).trans ht
  have hc := blk_cell hb 0
  simp at hc
  refine callsIn_of_wp Tryz.func120 rfl trivial ?_ rfl
  simp only [Tryz.ntmps120, List.size_toArray, List.length_cons, List.length_nil, Nat.reduceAdd, Nat.reduceSub, Array.replicate_succ, Array.replicate_zero, List.push_toArray, List.append_toArray, List.nil_append, List.cons_append]
  gi_wp2
  gi_loopw [3] (fun _ wr => wr = W) (fun _ _ => 0)
  case atStart => rfl
  case round =>
    subst hrel
    gi_wp2
    go_end0
    exact ⟨⟨_, rfl⟩, .inl h0⟩
end Go.Proofs.YtldllmhgofacbaaGreatDoor

/- Package snap: read at the empty text, for every plan of few rooms and wires. Conditions: none. -/
namespace Go.Proofs.YtldllmhgofacbaaGreatDoor
open Go.RowKit Go.Shelf
set_option maxRecDepth 100000
attribute [local go_sem] Oper.semAt_some

/-- What lies while the lines come. -/
structure ReadAt (w : World) (b : Nat) (v : Value) (W : World) : Prop where
  out : Boxed W (w.heap.size + 1) 86 (.slice none 0 0)
  is : Boxed W (w.heap.size + 1 + 1) 4 (.bool false)
  want : Boxed W b 78 v
  got : Boxed W (b + 1) 86 (.slice none 0 0)
  far : w.heap.size + 1 + 1 < b
  below : Below w.heap.size w W
theorem ReadAt.abide (w : World) (b B : Nat) (v : Value) (hB : b + 1 + 1 < B) : Abide B (b + 1 + 1) (fun (_ : List Empty) W => ReadAt w b v W) := by
  refine ⟨fun s W W' row h hg hr => ?_, fun s W u h => ?_⟩
  · have ne : ∀ k, k < B → some k ≠ row := fun k hk e => by have := (hr k e.symm).1; omega
    have hf := h.far
    exact ⟨h.out.kept hg (ne _ (by omega)), h.is.kept hg (ne _ (by omega)), h.want.kept hg (ne _ (by omega)), h.got.kept hg (ne _ (by omega)), hf, h.below.grown hg h.below.size (fun k e => by have := (hr k e).1; omega)⟩
  · have hf := h.far
    exact ⟨h.out.other (by omega) _, h.is.other (by omega) _, h.want.other (by omega) _, h.got.other (by omega) _, hf, h.below.setCell (p := ⟨b + 1 + 1, 0, none⟩) (by simp; omega) _⟩
theorem read_at {w w1 : World} {o : Obj} {A : Option Addr} {n c : Nat} {s : ByteArray}
    (h : Below (((w.alloc o).alloc (.cells #[.slice none 0 0] 86)).alloc (.cells #[.bool false] 4)).heap.size (((w.alloc o).alloc (.cells #[.slice none 0 0] 86)).alloc (.cells #[.bool false] 4)) w1) :
    ReadAt w w1.heap.size (.slice A n c) (((w1.alloc (.cells #[.slice A n c] 78)).alloc (.cells #[.slice none 0 0] 86)).alloc (.cells #[.string s] 9)) := by
  have b1 : Boxed (((w.alloc o).alloc (.cells #[.slice none 0 0] 86)).alloc (.cells #[.bool false] 4)) (w.heap.size + 1) 86 (.slice none 0 0) := by
    have := (Boxed.new (w.alloc o) 86 (.slice none 0 0)).alloc (.cells #[.bool false] 4)
    rw [sz_alloc] at this; exact this
  have b2 : Boxed (((w.alloc o).alloc (.cells #[.slice none 0 0] 86)).alloc (.cells #[.bool false] 4)) (w.heap.size + 1 + 1) 4 (.bool false) := by
    have := Boxed.new ((w.alloc o).alloc (.cells #[.slice none 0 0] 86)) 4 (.bool false)
    rw [sz_alloc, sz_alloc] at this; exact this
  have hs := h.size
  simp only [sz_alloc] at hs
  have c1 : Boxed w1 (w.heap.size + 1) 86 (.slice none 0 0) := (h.block _ b1.lt).trans b1
  have c2 : Boxed w1 (w.heap.size + 1 + 1) 4 (.bool false) := (h.block _ b2.lt).trans b2
  have c4 := (Boxed.new (w1.alloc (.cells #[.slice A n c] 78)) 86 (.slice none 0 0)).alloc (.cells #[.string s] 9)
  rw [sz_alloc] at c4
  have hb : Below w.heap.size w w1 := ((((Below.refl _ w).alloc (Nat.le_refl _) _).alloc (by simp) _).alloc (by simp; omega) _).trans (h.mono (by simp; omega))
  exact ⟨((c1.alloc _).alloc _).alloc _, ((c2.alloc _).alloc _).alloc _, ((Boxed.new w1 _ _).alloc _).alloc _, c4, by omega, ((hb.alloc (by omega) _).alloc (by simp; omega) _).alloc (by simp; omega) _⟩

set_option maxHeartbeats 4000000 in
theorem sread_none (w : World) (A0 A2 A3 : Option Addr) (n0 c0 n2 c2 n3 c3 : Nat) (v1 : Int) (h0 : n0 ≤ 1000) (h3 : n3 ≤ 1000) :
    Calls Tryz.prog 85 #[.agg #[.slice A0 n0 c0, .int .i64 v1, .slice A2 n2 c2, .slice A3 n3 c3], .string ⟨#[]⟩] w fun e w' => e = .returned (.tuple #[.slice none 0 0, .bool false]) ∧ Below w.heap.size w w' := by
  refine (callsIn_wide (n := 3)).1 ?_
  refine callsIn_of_wp_marks Tryz.func85 rfl trivial ?_ rfl
  simp only [Tryz.ntmps85, List.size_toArray, List.length_cons, List.length_nil, Nat.reduceAdd, Nat.reduceSub, Array.replicate_succ, Array.replicate_zero, List.push_toArray, List.append_toArray, List.nil_append, List.cons_append]
  gi_wp2_with (first
    | (refine ⟨trivial, ?_⟩; gi_at_call 134; refine (callsIn_wide.2 (swords_any _ A0 A2 A3 n0 c0 n2 c2 n3 c3 v1 h0 h3)).mono ?_; rintro e w1 ⟨A, c, rfl, hb1⟩; have HB1 := hid hb1; clear hb1)
    | (refine ⟨trivial, ?_⟩; gi_at_call 75; refine (callsIn_wide.2 (lines_made0 _ _)).mono ?_; rintro e w2 ⟨rfl, rfl⟩))
  have HR := hid (read_at (s := ⟨#[]⟩) (A := A) (n := 1 + n0 + n3) (c := c) HB1.out)
  have HT := hid (heap_alloc_new ((w1.alloc (.cells #[.slice A (1 + n0 + n3) c] 78)).alloc (.cells #[.slice none 0 0] 86)) (.cells #[.string ⟨#[]⟩] 9))
  have hsz : (((w1.alloc (.cells #[.slice A (1 + n0 + n3) c] 78)).alloc (.cells #[.slice none 0 0] 86)).alloc (.cells #[.string ⟨#[]⟩] 9)).heap.size = w1.heap.size + 1 + 1 + 1 := by simp
  obtain ⟨W0, hW0⟩ : ∃ W0, ((w1.alloc (.cells #[.slice A (1 + n0 + n3) c] 78)).alloc (.cells #[.slice none 0 0] 86)).alloc (.cells #[.string ⟨#[]⟩] 9) = W0 := ⟨_, rfl⟩
  simp only [sz_alloc] at HT
  rw [hW0] at HR HT hsz ⊢
  clear hW0 HB1
  refine range_cell (α := Empty) (all := []) (t := w1.heap.size + 1 + 1) rfl (by decide) (gf := 120) (lb := #[.pointer (some ⟨w1.heap.size + 1 + 1, 0, none⟩)]) rfl trivial (enters_of Tryz.func120 (by kernel_rfl) rfl)
    (encs := fun x => x.elim) (by omega) (lines_none _ _ _ _ _ HT.out) (fun x => x.elim)
    (fun _ W => ReadAt w w1.heap.size (.slice A (1 + n0 + n3) c) W) (fun _ _ _ => False)
    (ReadAt.abide _ _ _ _ (by omega)) (fun _ => ⟨fun _ _ _ _ hs _ _ => hs, fun _ _ _ hs => hs⟩) HR.out (fun x => x.elim) ?assign ?body ?done ?stop
  case assign => intro l x; exact x.elim
  case body => intro l pre x; exact x.elim
  case stop => rintro D c pre W _ _ h _; exact h.elim
  case done =>
    rintro D W hD hr hK
    have HR2 := hid hr
    have q4 := hr.out.cell
    have q5 := hr.is.cell
    have q6 := hr.want.cell
    have q7 := hr.got.cell
    have f4 := hr.out.frozen
    have f5 := hr.is.frozen
    have hfar := hr.far
    have o5 := (hr.is.other (B' := w.heap.size + 1) (by omega) (.slice none 0 0)).cell
    have o6 := (hr.want.other (B' := w.heap.size + 1) (by omega) (.slice none 0 0)).cell
    have o7 := (hr.got.other (B' := w.heap.size + 1) (by omega) (.slice none 0 0)).cell
    have of5 := (hr.is.other (B' := w.heap.size + 1) (by omega) (.slice none 0 0)).frozen
    clear hr
    gi_wp2
    gi_region
    have hz : ((0 : Int) == 1 + ↑n0 + ↑n3) = false := by
      cases h : ((0 : Int) == 1 + ↑n0 + ↑n3)
      · rfl
      · have := eq_of_beq h; omega
    rw [hz]
    obtain ⟨W9, hW9⟩ : ∃ W9, ((W.setCell ⟨w.heap.size + 1, 0, none⟩ (.slice none 0 0)).setCell ⟨w.heap.size + 1 + 1, 0, none⟩ (.bool false)).drew = W9 := ⟨_, rfl⟩
    have h9 : Boxed W9 (w.heap.size + 1) 86 (.slice none 0 0) := by rw [← hW9]; exact (HR2.out.out.set _).other (by omega) _
    have h9b : Boxed W9 (w.heap.size + 1 + 1) 4 (.bool false) := by rw [← hW9]; exact (HR2.out.is.other (by omega) _).set _
    have hK9 : W9.heap[D]? = some (.deferred (some [])) := by rw [← hW9]; exact set_keep (set_keep hK (by omega)) (by omega)
    have hb9 : Below w.heap.size w W9 := by rw [← hW9]; exact ((HR2.out.below.setCell (p := ⟨w.heap.size + 1, 0, none⟩) (by simp) _).setCell (p := ⟨w.heap.size + 1 + 1, 0, none⟩) (by simp; omega) _).drew
    rw [hW9]
    clear hW9
    gi_wp2
    refine ⟨by simp, .inl ⟨_, _, rfl, run_takeDeferred hK9, ?_⟩⟩
    have e4 := (h9.kept (grownBy_putObj' W9 D (.deferred none)) (by simp; omega)).cell
    have e5 := (h9b.kept (grownBy_putObj' W9 D (.deferred none)) (by simp; omega)).cell
    refine ⟨.tuple #[.slice none 0 0, .bool false], ?_, rfl, hb9.trans (belowK_b (w := w) (Nat.le_refl _) W9 D _ _ (by omega) hK9 rfl rfl)⟩
    simp [results, Tryz.f85, go_sem, e4, e5]
end Go.Proofs.YtldllmhgofacbaaGreatDoor
