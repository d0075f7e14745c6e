/- Package wire: contracts of New and Held, and of slices.Clone at []int. -/
import Derived.Test.YtnighanlonkjbaaDoorLine
namespace Go.Proofs.YtnighanlonkjbaaDoor
open Go.RowKit
set_option maxRecDepth 100000

theorem new_bad (x : Wire) (w : World) (h : wireChk x ≠ 0) :
    Calls Tryd.prog 24 #[.agg #[.int .i64 x.fr, .int .i64 x.to, .int .i64 x.kind, .int .i64 x.deep]] w fun e w' => e = .returned (.tuple #[.pointer none, errV (wireChk x)]) ∧ Below w.heap.size w w' := by
  have he := errV_pos h
  go_enter Tryd.func24, Tryd.ntmps24
  go_wp2_with (go_at_call 23; refine (wire_check _ _ _ _ _).mono ?_; rintro e w' ⟨rfl, hb⟩; rw [he]; clear he)
  go_ret2
  have := errV_pos h
  exact ⟨by rw [this]; rfl, ((Below.refl _ _).alloc (Nat.le_refl _) _).trans (hb.mono (by simp))⟩

def Made (w : World) (x : Wire) (e : Ending) (w' : World) : Prop :=
  ∃ b, e = .returned (.tuple #[.pointer (some ⟨b, 0, none⟩), .nilIface]) ∧ w.heap.size ≤ b ∧ LineAt w' b none x [] 0 ∧ Below w.heap.size w w'

theorem new_ok (x : Wire) (w : World) (h : wireChk x = 0) :
    Calls Tryd.prog 24 #[.agg #[.int .i64 x.fr, .int .i64 x.to, .int .i64 x.kind, .int .i64 x.deep]] w (Made w x) := by
  have H := hid h
  clear h
  go_enter Tryd.func24, Tryd.ntmps24
  go_wp2_with fail
  refine (wire_check x.fr x.to x.kind x.deep _).mono ?_
  rintro e w' ⟨rfl, hb⟩
  have h : wireChk ⟨x.fr, x.to, x.kind, x.deep⟩ = 0 := H.out
  rw [h, errV_zero]
  obtain ⟨hc, hf⟩ : (∀ o, w'.cell? ⟨w.heap.size, o, none⟩ = (w.alloc (.cells #[.int .i64 x.fr, .int .i64 x.to, .int .i64 x.kind, .int .i64 x.deep] 44)).cell? ⟨w.heap.size, o, none⟩) ∧ True :=
    ⟨fun o => hb.cell (p := ⟨w.heap.size, o, none⟩) (by simp), trivial⟩
  have hc0 : w'.cell? ⟨w.heap.size, 0, none⟩ = some (.int .i64 x.fr) := (hc 0).trans (blk_cell (heap_alloc_new w _) 0)
  have hc1 : w'.cell? ⟨w.heap.size, 1, none⟩ = some (.int .i64 x.to) := (hc 1).trans (blk_cell (heap_alloc_new w _) 1)
  have hc2 : w'.cell? ⟨w.heap.size, 2, none⟩ = some (.int .i64 x.kind) := (hc 2).trans (blk_cell (heap_alloc_new w _) 2)
  have hc3 : w'.cell? ⟨w.heap.size, 3, none⟩ = some (.int .i64 x.deep) := (hc 3).trans (blk_cell (heap_alloc_new w _) 3)
  have HBB := hid hb
  clear h hb hc hf
  go_wp2
  go_ret2
  have hb := HBB.out
  refine ⟨w'.heap.size, rfl, by have := hb.size; simp at this; omega, ⟨0, heap_alloc_new w' _, Row.nil _ _ _⟩, ?_⟩
  exact (((Below.refl _ _).alloc (Nat.le_refl _) _).trans (hb.mono (by simp))).alloc (by have := hb.size; simp at this; omega) _

/-- A copy of what is read, in new memory. -/
def Cloned (w : World) (T sz : Nat) (n : Nat) (xs : List Value) (e : Ending) (w' : World) : Prop :=
  ∃ A cap, e = .returned (.slice A n cap) ∧ Row w' T sz A n cap xs ∧ (∀ k, InA A k → w.heap.size ≤ k) ∧ Below w.heap.size w w'

theorem clone_ints (w : World) (A : Option Addr) (n c : Nat) (l : List Int) (hn : n < 1000000) (hA : A = none → n = 0) (hs : Sl w A 1 n (ints l)) :
    Calls Tryd.prog 63 #[.slice A n c] w (Cloned w 3 1 n (ints l)) := by
  have hnil := fun (w : World) a n c => Lib.run_eql_slice_nil (P := Tryd.prog) w 45 3 a n c 0 0 Tryd.underlying45
  cases A with
  | none =>
    obtain rfl := hA rfl
    have hl : ints l = [] := List.eq_nil_of_length_eq_zero (by simpa using hs.1)
    rw [hl]
    clear hl hs hA
    go_enter Tryd.func63, Tryd.ntmps63
    go_wp2
    go_ret
    exact ⟨none, 0, rfl, Row.nil _ _ _, fun k hk => by simp [InA] at hk, Below.refl _ _⟩
  | some a =>
    clear hA
    have HS := hid hs
    clear hs
    obtain ⟨i0, hi, hz0, hz1, hz2⟩ := info_parts Tryd.infoInt
    go_enter Tryd.func63, Tryd.ntmps63
    go_wp2_with (at_builtin; refine wpList_append_row _ rfl _ _ 45 rfl 3 i0 (.int .i64 0) 1 8 Tryd.underlying45 hi hz0 hz1 hz2 rfl (by decide) (some ⟨w.heap.size, 0, none⟩) 0 0 [] rfl ?c0 (some a) n c (ints l) rfl ?c1 ?c2 ?c3 ?c4 ?_)
    case c0 => exact ⟨rfl, .inr ⟨_, 0, _, rfl, heap_alloc_new w _, Nat.le_refl _, by simp, by simp, fun j u hu => by simp at hu⟩⟩
    case c1 => exact HS.out.new ((Below.refl _ _).alloc (Nat.le_refl _) _)
    case c2 => exact ints_one _
    case c3 => unfold maxLen; omega
    case c4 => omega
    intro A' cap' w' hrow' hkeep' hin'
    have HR' := hid hrow'
    have HK' := hid hkeep'
    have HI' := hid hin'
    clear hrow' hkeep' hin'
    go_wp2
    go_ret
    have hrow' := HR'.out
    have hrow' : Row w' 3 1 A' n cap' (ints l) := by simpa using hrow'
    refine ⟨A', cap', rfl, hrow', fun k hk => ?_, ?_⟩
    · rcases HI'.out k hk with h | h
      · simp [InA] at h; omega
      · omega
    · have hk := (((Keep.refl NoF w).alloc _).trans HK'.out)
      exact ⟨hk.os, hk.tape, hk.output, hk.size, fun k hk' => hk.block k hk' (by
        rintro (h | h)
        · exact h
        · simp [InA] at h; omega)⟩

/-- What is read of a line. -/
def HeldAs (w : World) (items : List Int) (lost : Int) (e : Ending) (w' : World) : Prop :=
  ∃ A cap, e = .returned (.agg #[.slice A items.length cap, .int .i64 lost]) ∧ Row w' 3 1 A items.length cap (ints items) ∧ (∀ k, InA A k → w.heap.size ≤ k) ∧ Below w.heap.size w w'

theorem held_any (b : Nat) (w : World) (A : Option Addr) (x : Wire) (items : List Int) (lost : Int) (h6 : items.length ≤ 6) (hl : LineAt w b A x items lost) :
    Calls Tryd.prog 31 #[.pointer (some ⟨b, 0, none⟩)] w (HeldAs w items lost) := by
  obtain ⟨cap, hb, hr⟩ := hl
  obtain ⟨c2, c3, c4, c5, f4, f5, hlt⟩ := lineFacts hb
  have hs := hr.sl
  have hA : A = none → items.length = 0 := by
    rintro rfl
    rcases hr.2 with ⟨_, h, _⟩ | ⟨_, _, _, h, _⟩
    · exact h
    · cases h
  clear hr c2 c3 f4 f5
  have HB := hid hb
  have HS := hid hs
  clear hb hs
  obtain ⟨m, hm⟩ : ∃ m, m = items.length := ⟨_, rfl⟩
  rw [← hm] at c4 hA h6
  have HM := hid hm
  clear hm
  go_enter Tryd.func31, Tryd.ntmps31
  go_wp2
  have hb0 : ∀ o, (w.alloc o).cell? ⟨b, 4, none⟩ = some (.slice A m cap) := fun o => (World.cell?_alloc_lt w o ⟨b, 4, none⟩ hlt).trans c4
  have hb1 : ∀ o, (w.alloc o).cell? ⟨b, 5, none⟩ = some (.int .i64 lost) := fun o => (World.cell?_alloc_lt w o ⟨b, 5, none⟩ hlt).trans c5
  have hne : b ≠ w.heap.size := by omega
  go_region_held3 (fun w' => w'.cell? ⟨b, 4, none⟩ = some (.slice A m cap) ∧ w'.cell? ⟨b, 5, none⟩ = some (.int .i64 lost))
    (first | go_keep | exact ⟨‹_›, ‹_›⟩ | exact ⟨(cell_far hne).trans ((cell_far hne).trans ‹_›), (cell_far hne).trans ((cell_far hne).trans ‹_›)⟩)
    (first | (go_at_call 63; refine (clone_ints _ A m cap items (by omega) hA (by have h1 := HS.out; rw [← HM.out] at h1; exact h1.keep (by simp) (fun k _ hl => by simp only [hp_drew]; exact blk_alloc hl _))).mono ?_; rintro e w1 ⟨A1, cap1, rfl, hr1, hn1, hb1⟩; have k4 : w1.cell? ⟨b, 4, none⟩ = some (.slice A m cap) := (hb1.cell (p := ⟨b, 4, none⟩) (by simp; omega)).trans (by first | assumption | simp [*]); have k5 : w1.cell? ⟨b, 5, none⟩ = some (.int .i64 lost) := (hb1.cell (p := ⟨b, 5, none⟩) (by simp; omega)).trans (by first | assumption | simp [*]); have k6 : w1.cell? ⟨w.heap.size, 0, none⟩ = some (.slice none 0 0) := (hb1.cell (p := ⟨w.heap.size, 0, none⟩) (by simp)).trans (blk_cell (heap_alloc_new w _) 0); have k7 : w1.cell? ⟨w.heap.size, 1, none⟩ = some (.int .i64 0) := (hb1.cell (p := ⟨w.heap.size, 1, none⟩) (by simp)).trans (blk_cell (heap_alloc_new w _) 1); have k8 : w1.frozen? ⟨w.heap.size, 0, none⟩ = false := (hb1.frozen (p := ⟨w.heap.size, 0, none⟩) (by simp)).trans (blk_free (heap_alloc_new w _) 0); have k9 : w1.frozen? ⟨w.heap.size, 1, none⟩ = false := (hb1.frozen (p := ⟨w.heap.size, 1, none⟩) (by simp)).trans (blk_free (heap_alloc_new w _) 1)))
  go_wp2
  have hb1 : Below (w.heap.size + 1) (w.alloc (.cells #[.slice none 0 0, .int .i64 0] 53)).drew w1 := by simpa using hb1
  have hm := HM.out
  have hrl := hr1.lt
  refine bodyPost_ret (v := .agg #[.slice A1 m cap1, .int .i64 lost]) (by simp [results, Tryd.results31, go_sem, k6, k7]) rfl ?_
  subst hm
  refine ⟨A1, cap1, rfl, ?_, fun k hk => ?_, ?_⟩
  · refine (hr1.setCell (p := ⟨w.heap.size, 0, none⟩) ?_ _).setCell (p := ⟨w.heap.size, 1, none⟩) ?_ _ <;>
    · intro h
      have := hn1 _ h
      simp at this
      omega
  · have := hn1 k hk
    simp at this
    omega
  · exact (((((Below.refl _ _).alloc (Nat.le_refl _) _).drew).trans (hb1.mono (by omega))).setCell (by simp) _).setCell (by simp) _
end Go.Proofs.YtnighanlonkjbaaDoor
