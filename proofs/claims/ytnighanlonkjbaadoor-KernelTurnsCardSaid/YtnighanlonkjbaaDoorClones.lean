/- slices.Clone at the types of a plan. -/
import Derived.Test.YtnighanlonkjbaaDoorLine2
import Derived.Test.YtnighanlonkjbaaDoorOpen2
namespace Go.Proofs.YtnighanlonkjbaaDoor
open Go.RowKit
set_option maxRecDepth 100000

theorem Tryd.infoClOp : (Tryd.prog.info? 27).map (fun i => (i.zero, i.size, i.bytes)) = some (some (.agg #[.int .i64 0, .int .i64 0, .int .i64 0]), 3, 24) := by kernel_rfl
theorem clone_Op (w : World) (A : Option Addr) (n c : Nat) (xs : List Value) (hone : ∀ u ∈ xs, u.oneCell' = true) (hn : n < 1000000) (hA : A = none → n = 0) (hs : Sl w A 3 n xs) :
    Calls Tryd.prog 91 #[.slice A n c] w (Cloned w 27 3 n xs) := by
  have hnil := fun (w : World) a n c => Lib.run_eql_slice_nil (P := Tryd.prog) w 22 27 a n c 0 0 Tryd.underlying22
  cases A with
  | none =>
    obtain rfl := hA rfl
    have hl : xs = [] := List.eq_nil_of_length_eq_zero (by simpa using hs.1)
    rw [hl]
    clear hl hs hA
    go_enter Tryd.func91, Tryd.ntmps91
    go_wp2
    go_ret
    exact ⟨none, 0, rfl, Row.nil _ _ _, fun k hk => by simp [InA] at hk, Below.refl _ _⟩
  | some a =>
    clear hA
    have HS := hid hs
    clear hs
    obtain ⟨i0, hi, hz0, hz1, hz2⟩ := info_parts Tryd.infoClOp
    go_enter Tryd.func91, Tryd.ntmps91
    go_wp2_with (at_builtin; refine wpList_append_row _ rfl _ _ 22 rfl 27 i0 (.agg #[.int .i64 0, .int .i64 0, .int .i64 0]) 3 24 Tryd.underlying22 hi hz0 hz1 hz2 rfl (by decide) (some ⟨w.heap.size, 0, none⟩) 0 0 [] rfl ?c0 (some a) n c xs rfl ?c1 ?c2 ?c3 ?c4 ?_)
    case c0 => exact ⟨rfl, .inr ⟨_, 0, _, rfl, heap_alloc_new w _, Nat.le_refl _, by simp, by simp, fun j u hu => by simp at hu⟩⟩
    case c1 => exact HS.out.new ((Below.refl _ _).alloc (Nat.le_refl _) _)
    case c2 => exact hone
    case c3 => unfold maxLen; omega
    case c4 => omega
    intro A' cap' w' hrow' hkeep' hin'
    have HR' := hid hrow'
    have HK' := hid hkeep'
    have HI' := hid hin'
    clear hrow' hkeep' hin'
    go_wp2
    go_ret
    have hrow' := HR'.out
    have hrow' : Row w' 27 3 A' n cap' xs := by simpa using hrow'
    refine ⟨A', cap', rfl, hrow', fun k hk => ?_, ?_⟩
    · rcases HI'.out k hk with h | h
      · simp [InA] at h; omega
      · omega
    · have hk := (((Keep.refl NoF w).alloc _).trans HK'.out)
      exact ⟨hk.os, hk.tape, hk.output, hk.size, fun k hk' => hk.block k hk' (by
        rintro (h | h)
        · exact h
        · simp [InA] at h; omega)⟩

theorem Tryd.infoClSpan : (Tryd.prog.info? 83).map (fun i => (i.zero, i.size, i.bytes)) = some (some (.agg #[.int .i64 0, .int .i64 0, .int .i64 0]), 3, 24) := by kernel_rfl
theorem clone_Span (w : World) (A : Option Addr) (n c : Nat) (xs : List Value) (hone : ∀ u ∈ xs, u.oneCell' = true) (hn : n < 1000000) (hA : A = none → n = 0) (hs : Sl w A 3 n xs) :
    Calls Tryd.prog 89 #[.slice A n c] w (Cloned w 83 3 n xs) := by
  have hnil := fun (w : World) a n c => Lib.run_eql_slice_nil (P := Tryd.prog) w 68 83 a n c 0 0 Tryd.underlying68
  cases A with
  | none =>
    obtain rfl := hA rfl
    have hl : xs = [] := List.eq_nil_of_length_eq_zero (by simpa using hs.1)
    rw [hl]
    clear hl hs hA
    go_enter Tryd.func89, Tryd.ntmps89
    go_wp2
    go_ret
    exact ⟨none, 0, rfl, Row.nil _ _ _, fun k hk => by simp [InA] at hk, Below.refl _ _⟩
  | some a =>
    clear hA
    have HS := hid hs
    clear hs
    obtain ⟨i0, hi, hz0, hz1, hz2⟩ := info_parts Tryd.infoClSpan
    go_enter Tryd.func89, Tryd.ntmps89
    go_wp2_with (at_builtin; refine wpList_append_row _ rfl _ _ 68 rfl 83 i0 (.agg #[.int .i64 0, .int .i64 0, .int .i64 0]) 3 24 Tryd.underlying68 hi hz0 hz1 hz2 rfl (by decide) (some ⟨w.heap.size, 0, none⟩) 0 0 [] rfl ?c0 (some a) n c xs rfl ?c1 ?c2 ?c3 ?c4 ?_)
    case c0 => exact ⟨rfl, .inr ⟨_, 0, _, rfl, heap_alloc_new w _, Nat.le_refl _, by simp, by simp, fun j u hu => by simp at hu⟩⟩
    case c1 => exact HS.out.new ((Below.refl _ _).alloc (Nat.le_refl _) _)
    case c2 => exact hone
    case c3 => unfold maxLen; omega
    case c4 => omega
    intro A' cap' w' hrow' hkeep' hin'
    have HR' := hid hrow'
    have HK' := hid hkeep'
    have HI' := hid hin'
    clear hrow' hkeep' hin'
    go_wp2
    go_ret
    have hrow' := HR'.out
    have hrow' : Row w' 83 3 A' n cap' xs := by simpa using hrow'
    refine ⟨A', cap', rfl, hrow', fun k hk => ?_, ?_⟩
    · rcases HI'.out k hk with h | h
      · simp [InA] at h; omega
      · omega
    · have hk := (((Keep.refl NoF w).alloc _).trans HK'.out)
      exact ⟨hk.os, hk.tape, hk.output, hk.size, fun k hk' => hk.block k hk' (by
        rintro (h | h)
        · exact h
        · simp [InA] at h; omega)⟩

theorem Tryd.infoClWire : (Tryd.prog.info? 44).map (fun i => (i.zero, i.size, i.bytes)) = some (some (.agg #[.int .i64 0, .int .i64 0, .int .i64 0, .int .i64 0]), 4, 32) := by kernel_rfl
theorem clone_Wire (w : World) (A : Option Addr) (n c : Nat) (xs : List Value) (hone : ∀ u ∈ xs, u.oneCell' = true) (hn : n < 1000000) (hA : A = none → n = 0) (hs : Sl w A 4 n xs) :
    Calls Tryd.prog 90 #[.slice A n c] w (Cloned w 44 4 n xs) := by
  have hnil := fun (w : World) a n c => Lib.run_eql_slice_nil (P := Tryd.prog) w 67 44 a n c 0 0 Tryd.underlying67
  cases A with
  | none =>
    obtain rfl := hA rfl
    have hl : xs = [] := List.eq_nil_of_length_eq_zero (by simpa using hs.1)
    rw [hl]
    clear hl hs hA
    go_enter Tryd.func90, Tryd.ntmps90
    go_wp2
    go_ret
    exact ⟨none, 0, rfl, Row.nil _ _ _, fun k hk => by simp [InA] at hk, Below.refl _ _⟩
  | some a =>
    clear hA
    have HS := hid hs
    clear hs
    obtain ⟨i0, hi, hz0, hz1, hz2⟩ := info_parts Tryd.infoClWire
    go_enter Tryd.func90, Tryd.ntmps90
    go_wp2_with (at_builtin; refine wpList_append_row _ rfl _ _ 67 rfl 44 i0 (.agg #[.int .i64 0, .int .i64 0, .int .i64 0, .int .i64 0]) 4 32 Tryd.underlying67 hi hz0 hz1 hz2 rfl (by decide) (some ⟨w.heap.size, 0, none⟩) 0 0 [] rfl ?c0 (some a) n c xs rfl ?c1 ?c2 ?c3 ?c4 ?_)
    case c0 => exact ⟨rfl, .inr ⟨_, 0, _, rfl, heap_alloc_new w _, Nat.le_refl _, by simp, by simp, fun j u hu => by simp at hu⟩⟩
    case c1 => exact HS.out.new ((Below.refl _ _).alloc (Nat.le_refl _) _)
    case c2 => exact hone
    case c3 => unfold maxLen; omega
    case c4 => omega
    intro A' cap' w' hrow' hkeep' hin'
    have HR' := hid hrow'
    have HK' := hid hkeep'
    have HI' := hid hin'
    clear hrow' hkeep' hin'
    go_wp2
    go_ret
    have hrow' := HR'.out
    have hrow' : Row w' 44 4 A' n cap' xs := by simpa using hrow'
    refine ⟨A', cap', rfl, hrow', fun k hk => ?_, ?_⟩
    · rcases HI'.out k hk with h | h
      · simp [InA] at h; omega
      · omega
    · have hk := (((Keep.refl NoF w).alloc _).trans HK'.out)
      exact ⟨hk.os, hk.tape, hk.output, hk.size, fun k hk' => hk.block k hk' (by
        rintro (h | h)
        · exact h
        · simp [InA] at h; omega)⟩

theorem Tryd.infoClOps : (Tryd.prog.info? 22).map (fun i => (i.zero, i.size, i.bytes)) = some (some (.slice none 0 0), 1, 24) := by kernel_rfl
theorem clone_Ops (w : World) (A : Option Addr) (n c : Nat) (xs : List Value) (hone : ∀ u ∈ xs, u.oneCell' = true) (hn : n < 1000000) (hA : A = none → n = 0) (hs : Sl w A 1 n xs) :
    Calls Tryd.prog 88 #[.slice A n c] w (Cloned w 22 1 n xs) := by
  have hnil := fun (w : World) a n c => Lib.run_eql_slice_nil (P := Tryd.prog) w 66 22 a n c 0 0 Tryd.underlying66
  cases A with
  | none =>
    obtain rfl := hA rfl
    have hl : xs = [] := List.eq_nil_of_length_eq_zero (by simpa using hs.1)
    rw [hl]
    clear hl hs hA
    go_enter Tryd.func88, Tryd.ntmps88
    go_wp2
    go_ret
    exact ⟨none, 0, rfl, Row.nil _ _ _, fun k hk => by simp [InA] at hk, Below.refl _ _⟩
  | some a =>
    clear hA
    have HS := hid hs
    clear hs
    obtain ⟨i0, hi, hz0, hz1, hz2⟩ := info_parts Tryd.infoClOps
    go_enter Tryd.func88, Tryd.ntmps88
    go_wp2_with (at_builtin; refine wpList_append_row _ rfl _ _ 66 rfl 22 i0 (.slice none 0 0) 1 24 Tryd.underlying66 hi hz0 hz1 hz2 rfl (by decide) (some ⟨w.heap.size, 0, none⟩) 0 0 [] rfl ?c0 (some a) n c xs rfl ?c1 ?c2 ?c3 ?c4 ?_)
    case c0 => exact ⟨rfl, .inr ⟨_, 0, _, rfl, heap_alloc_new w _, Nat.le_refl _, by simp, by simp, fun j u hu => by simp at hu⟩⟩
    case c1 => exact HS.out.new ((Below.refl _ _).alloc (Nat.le_refl _) _)
    case c2 => exact hone
    case c3 => unfold maxLen; omega
    case c4 => omega
    intro A' cap' w' hrow' hkeep' hin'
    have HR' := hid hrow'
    have HK' := hid hkeep'
    have HI' := hid hin'
    clear hrow' hkeep' hin'
    go_wp2
    go_ret
    have hrow' := HR'.out
    have hrow' : Row w' 22 1 A' n cap' xs := by simpa using hrow'
    refine ⟨A', cap', rfl, hrow', fun k hk => ?_, ?_⟩
    · rcases HI'.out k hk with h | h
      · simp [InA] at h; omega
      · omega
    · have hk := (((Keep.refl NoF w).alloc _).trans HK'.out)
      exact ⟨hk.os, hk.tape, hk.output, hk.size, fun k hk' => hk.block k hk' (by
        rintro (h | h)
        · exact h
        · simp [InA] at h; omega)⟩

end Go.Proofs.YtnighanlonkjbaaDoor
