/- Package snap: read at the empty text, for every plan of few rooms and wires. Conditions: none. -/
import Derived.Test.YtikadpfchchbpaaGreatDoorLinesNone
import Derived.Test.YtikadpfchchbpaaGreatDoorSnapWords
import Derived.RangeFuncBox
import Derived.BigRegionIn
namespace Go.Proofs.YtikadpfchchbpaaGreatDoor
open Go.RowKit Go.Shelf
set_option maxRecDepth 100000
attribute [local go_sem] Oper.semAt_some

/-- What lies while the lines come. -/
structure ReadAt (w : World) (b : Nat) (v : Value) (W : World) : Prop where
  out : Boxed W (w.heap.size + 1) 50 (.slice none 0 0)
  is : Boxed W (w.heap.size + 1 + 1) 4 (.bool false)
  want : Boxed W b 40 v
  got : Boxed W (b + 1) 50 (.slice none 0 0)
  far : w.heap.size + 1 + 1 < b
  below : Below w.heap.size w W
theorem ReadAt.abide (w : World) (b B : Nat) (v : Value) (hB : b + 1 + 1 < B) : Abide B (b + 1 + 1) (fun (_ : List Empty) W => ReadAt w b v W) := by
  refine ⟨fun s W W' row h hg hr => ?_, fun s W u h => ?_⟩
  · have ne : ∀ k, k < B → some k ≠ row := fun k hk e => by have := (hr k e.symm).1; omega
    have hf := h.far
    exact ⟨h.out.kept hg (ne _ (by omega)), h.is.kept hg (ne _ (by omega)), h.want.kept hg (ne _ (by omega)), h.got.kept hg (ne _ (by omega)), hf, h.below.grown hg h.below.size (fun k e => by have := (hr k e).1; omega)⟩
  · have hf := h.far
    exact ⟨h.out.other (by omega) _, h.is.other (by omega) _, h.want.other (by omega) _, h.got.other (by omega) _, hf, h.below.setCell (p := ⟨b + 1 + 1, 0, none⟩) (by simp; omega) _⟩
theorem read_at {w w1 : World} {o : Obj} {A : Option Addr} {n c : Nat} {s : ByteArray}
    (h : Below (((w.alloc o).alloc (.cells #[.slice none 0 0] 50)).alloc (.cells #[.bool false] 4)).heap.size (((w.alloc o).alloc (.cells #[.slice none 0 0] 50)).alloc (.cells #[.bool false] 4)) w1) :
    ReadAt w w1.heap.size (.slice A n c) (((w1.alloc (.cells #[.slice A n c] 40)).alloc (.cells #[.slice none 0 0] 50)).alloc (.cells #[.string s] 9)) := by
  have b1 : Boxed (((w.alloc o).alloc (.cells #[.slice none 0 0] 50)).alloc (.cells #[.bool false] 4)) (w.heap.size + 1) 50 (.slice none 0 0) := by
    have := (Boxed.new (w.alloc o) 50 (.slice none 0 0)).alloc (.cells #[.bool false] 4)
    rw [sz_alloc] at this; exact this
  have b2 : Boxed (((w.alloc o).alloc (.cells #[.slice none 0 0] 50)).alloc (.cells #[.bool false] 4)) (w.heap.size + 1 + 1) 4 (.bool false) := by
    have := Boxed.new ((w.alloc o).alloc (.cells #[.slice none 0 0] 50)) 4 (.bool false)
    rw [sz_alloc, sz_alloc] at this; exact this
  have hs := h.size
  simp only [sz_alloc] at hs
  have c1 : Boxed w1 (w.heap.size + 1) 50 (.slice none 0 0) := (h.block _ b1.lt).trans b1
  have c2 : Boxed w1 (w.heap.size + 1 + 1) 4 (.bool false) := (h.block _ b2.lt).trans b2
  have c4 := (Boxed.new (w1.alloc (.cells #[.slice A n c] 40)) 50 (.slice none 0 0)).alloc (.cells #[.string s] 9)
  rw [sz_alloc] at c4
  have hb : Below w.heap.size w w1 := ((((Below.refl _ w).alloc (Nat.le_refl _) _).alloc (by simp) _).alloc (by simp; omega) _).trans (h.mono (by simp; omega))
  exact ⟨((c1.alloc _).alloc _).alloc _, ((c2.alloc _).alloc _).alloc _, ((Boxed.new w1 _ _).alloc _).alloc _, c4, by omega, ((hb.alloc (by omega) _).alloc (by simp; omega) _).alloc (by simp; omega) _⟩

set_option maxHeartbeats 4000000 in
theorem sread_none (w : World) (A0 A2 A3 : Option Addr) (n0 c0 n2 c2 n3 c3 : Nat) (v1 : Int) (h0 : n0 ≤ 1000) (h3 : n3 ≤ 1000) :
    Calls Tryz.prog 17 #[.agg #[.slice A0 n0 c0, .int .i64 v1, .slice A2 n2 c2, .slice A3 n3 c3], .string ⟨#[]⟩] w fun e w' => e = .returned (.tuple #[.slice none 0 0, .bool false]) ∧ Below w.heap.size w w' := by
  refine (callsIn_wide (n := 3)).1 ?_
  refine callsIn_of_wp_marks Tryz.func17 rfl trivial ?_ rfl
  simp only [Tryz.ntmps17, List.size_toArray, List.length_cons, List.length_nil, Nat.reduceAdd, Nat.reduceSub, Array.replicate_succ, Array.replicate_zero, List.push_toArray, List.append_toArray, List.nil_append, List.cons_append]
  gi_wp2_with (first
    | (refine ⟨trivial, ?_⟩; gi_at_call 35; refine (callsIn_wide.2 (swords_any _ A0 A2 A3 n0 c0 n2 c2 n3 c3 v1 h0 h3)).mono ?_; rintro e w1 ⟨A, c, rfl, hb1⟩; have HB1 := hid hb1; clear hb1)
    | (refine ⟨trivial, ?_⟩; gi_at_call 36; refine (callsIn_wide.2 (lines_made _ _)).mono ?_; rintro e w2 ⟨rfl, rfl⟩))
  have HR := hid (read_at (s := ⟨#[]⟩) (A := A) (n := 1 + n0 + n3) (c := c) HB1.out)
  have HT := hid (heap_alloc_new ((w1.alloc (.cells #[.slice A (1 + n0 + n3) c] 40)).alloc (.cells #[.slice none 0 0] 50)) (.cells #[.string ⟨#[]⟩] 9))
  have hsz : (((w1.alloc (.cells #[.slice A (1 + n0 + n3) c] 40)).alloc (.cells #[.slice none 0 0] 50)).alloc (.cells #[.string ⟨#[]⟩] 9)).heap.size = w1.heap.size + 1 + 1 + 1 := by simp
  obtain ⟨W0, hW0⟩ : ∃ W0, ((w1.alloc (.cells #[.slice A (1 + n0 + n3) c] 40)).alloc (.cells #[.slice none 0 0] 50)).alloc (.cells #[.string ⟨#[]⟩] 9) = W0 := ⟨_, rfl⟩
  simp only [sz_alloc] at HT
  rw [hW0] at HR HT hsz ⊢
  clear hW0 HB1
  refine range_cell (α := Empty) (all := []) (t := w1.heap.size + 1 + 1) rfl (by decide) (gf := 66) (lb := #[.pointer (some ⟨w1.heap.size + 1 + 1, 0, none⟩)]) rfl trivial (enters_of Tryz.func66 (by kernel_rfl) rfl)
    (encs := fun x => x.elim) (by omega) (lines_none _ _ _ _ _ HT.out) (fun x => x.elim)
    (fun _ W => ReadAt w w1.heap.size (.slice A (1 + n0 + n3) c) W) (fun _ _ _ => False)
    (ReadAt.abide _ _ _ _ (by omega)) (fun _ => ⟨fun _ _ _ _ hs _ _ => hs, fun _ _ _ hs => hs⟩) HR.out (fun x => x.elim) ?assign ?body ?done ?stop
  case assign => intro l x; exact x.elim
  case body => intro l pre x; exact x.elim
  case stop => rintro D c pre W _ _ h _; exact h.elim
  case done =>
    rintro D W hD hr hK
    have HR2 := hid hr
    have q4 := hr.out.cell
    have q5 := hr.is.cell
    have q6 := hr.want.cell
    have q7 := hr.got.cell
    have f4 := hr.out.frozen
    have f5 := hr.is.frozen
    have hfar := hr.far
    have o5 := (hr.is.other (B' := w.heap.size + 1) (by omega) (.slice none 0 0)).cell
    have o6 := (hr.want.other (B' := w.heap.size + 1) (by omega) (.slice none 0 0)).cell
    have o7 := (hr.got.other (B' := w.heap.size + 1) (by omega) (.slice none 0 0)).cell
    have of5 := (hr.is.other (B' := w.heap.size + 1) (by omega) (.slice none 0 0)).frozen
    clear hr
    gi_wp2
    gi_region
    have hz : ((0 : Int) == 1 + ↑n0 + ↑n3) = false := by
      cases h : ((0 : Int) == 1 + ↑n0 + ↑n3)
      · rfl
      · have := eq_of_beq h; omega
    rw [hz]
    obtain ⟨W9, hW9⟩ : ∃ W9, ((W.setCell ⟨w.heap.size + 1, 0, none⟩ (.slice none 0 0)).setCell ⟨w.heap.size + 1 + 1, 0, none⟩ (.bool false)).drew = W9 := ⟨_, rfl⟩
    have h9 : Boxed W9 (w.heap.size + 1) 50 (.slice none 0 0) := by rw [← hW9]; exact (HR2.out.out.set _).other (by omega) _
    have h9b : Boxed W9 (w.heap.size + 1 + 1) 4 (.bool false) := by rw [← hW9]; exact (HR2.out.is.other (by omega) _).set _
    have hK9 : W9.heap[D]? = some (.deferred (some [])) := by rw [← hW9]; exact set_keep (set_keep hK (by omega)) (by omega)
    have hb9 : Below w.heap.size w W9 := by rw [← hW9]; exact ((HR2.out.below.setCell (p := ⟨w.heap.size + 1, 0, none⟩) (by simp) _).setCell (p := ⟨w.heap.size + 1 + 1, 0, none⟩) (by simp; omega) _).drew
    rw [hW9]
    clear hW9
    gi_wp2
    refine ⟨by simp, .inl ⟨_, _, rfl, run_takeDeferred hK9, ?_⟩⟩
    have e4 := (h9.kept (grownBy_putObj' W9 D (.deferred none)) (by simp; omega)).cell
    have e5 := (h9b.kept (grownBy_putObj' W9 D (.deferred none)) (by simp; omega)).cell
    refine ⟨.tuple #[.slice none 0 0, .bool false], ?_, rfl, hb9.trans (belowK_b (w := w) (Nat.le_refl _) W9 D _ _ (by omega) hK9 rfl rfl)⟩
    simp [results, Tryz.f17, go_sem, e4, e5]
end Go.Proofs.YtikadpfchchbpaaGreatDoor
