/- Several parts: each begins with what it says. -/
import Derived.Test.YtldllmhgofacbaaGreatDoorWire
/- Package wire: contracts of New, Send, Peek, Take, Held, for every line: what it holds then, and which blocks were written. -/
namespace Go.Proofs.YtldllmhgofacbaaGreatDoor
open Go.RowKit
set_option maxRecDepth 100000

theorem Tryz.infoInt : (Tryz.prog.info? 3).map (fun i => (i.zero, i.size, i.bytes)) = some (some (.int .i64 0), 1, 8) := by kernel_rfl

def ints (l : List Int) : List Value := l.map (.int .i64)
theorem ints_len (l : List Int) : (ints l).length = l.length := by simp [ints]
theorem ints_app (l m : List Int) : ints (l ++ m) = ints l ++ ints m := by simp [ints]
theorem ints_one (l : List Int) : ∀ u ∈ ints l, u.oneCell' = true := by
  intro u hu; simp [ints] at hu; obtain ⟨a, _, rfl⟩ := hu; rfl

def LF (b : Nat) (A : Option Addr) : Nat → Prop := fun k => k = b ∨ InA A k

structure LineFacts (w : World) (b : Nat) (A : Option Addr) (cap : Nat) (x : Wire) (n : Nat) (lost : Int) : Prop where
  c2 : w.cell? ⟨b, 2, none⟩ = some (.int .i64 x.kind)
  c3 : w.cell? ⟨b, 3, none⟩ = some (.int .i64 x.deep)
  c4 : w.cell? ⟨b, 4, none⟩ = some (.slice A n cap)
  c5 : w.cell? ⟨b, 5, none⟩ = some (.int .i64 lost)
  f4 : w.frozen? ⟨b, 4, none⟩ = false
  f5 : w.frozen? ⟨b, 5, none⟩ = false
  lt : b < w.heap.size

def lineSend (x : Wire) (items : List Int) (lost n : Int) : Bool × List Int × Int :=
  if x.kind = 1 then (true, [n], lost) else if (items.length : Int) = x.deep then (false, items, lost + 1) else (true, items ++ [n], lost)
def lineTake (x : Wire) (items : List Int) : List Int := if x.kind = 2 then items.tail else items

end Go.Proofs.YtldllmhgofacbaaGreatDoor

/- Package wire: contracts of New and Held, and of slices.Clone at []int. -/
namespace Go.Proofs.YtldllmhgofacbaaGreatDoor
open Go.RowKit
set_option maxRecDepth 100000

theorem new_bad (x : Wire) (w : World) (h : wireChk x ≠ 0) :
    Calls Tryz.prog 81 #[.agg #[.int .i64 x.fr, .int .i64 x.to, .int .i64 x.kind, .int .i64 x.deep]] w fun e w' => e = .returned (.tuple #[.pointer none, errV (wireChk x)]) ∧ Below w.heap.size w w' := by
  have he := errV_pos h
  go_enter Tryz.func81, Tryz.ntmps81
  go_wp2_with (go_at_call 132; refine (wire_check _ _ _ _ _).mono ?_; rintro e w' ⟨rfl, hb⟩; rw [he]; clear he)
  go_ret2
  have := errV_pos h
  exact ⟨by rw [this]; rfl, ((Below.refl _ _).alloc (Nat.le_refl _) _).trans (hb.mono (by simp))⟩

/-- A copy of what is read, in new memory. -/
def Cloned (w : World) (T sz : Nat) (n : Nat) (xs : List Value) (e : Ending) (w' : World) : Prop :=
  ∃ A cap, e = .returned (.slice A n cap) ∧ Row w' T sz A n cap xs ∧ (∀ k, InA A k → w.heap.size ≤ k) ∧ Below w.heap.size w w'

theorem clone_ints (w : World) (A : Option Addr) (n c : Nat) (l : List Int) (hn : n < 1000000) (hA : A = none → n = 0) (hs : Sl w A 1 n (ints l)) :
    Calls Tryz.prog 168 #[.slice A n c] w (Cloned w 3 1 n (ints l)) := by
  have hnil := fun (w : World) a n c => Lib.run_eql_slice_nil (P := Tryz.prog) w 64 3 a n c 0 0 Tryz.underlying64
  cases A with
  | none =>
    obtain rfl := hA rfl
    have hl : ints l = [] := List.eq_nil_of_length_eq_zero (by simpa using hs.1)
    rw [hl]
    clear hl hs hA
    go_enter Tryz.func168, Tryz.ntmps168
    go_wp2
    go_ret
    exact ⟨none, 0, rfl, Row.nil _ _ _, fun k hk => by simp [InA] at hk, Below.refl _ _⟩
  | some a =>
    clear hA
    have HS := hid hs
    clear hs
    obtain ⟨i0, hi, hz0, hz1, hz2⟩ := info_parts Tryz.infoInt
    go_enter Tryz.func168, Tryz.ntmps168
    go_wp2_with (at_builtin; refine wpList_append_row _ rfl _ _ 64 rfl 3 i0 (.int .i64 0) 1 8 Tryz.underlying64 hi hz0 hz1 hz2 rfl (by decide) (some ⟨w.heap.size, 0, none⟩) 0 0 [] rfl ?c0 (some a) n c (ints l) rfl ?c1 ?c2 ?c3 ?c4 ?_)
    case c0 => exact ⟨rfl, .inr ⟨_, 0, _, rfl, heap_alloc_new w _, Nat.le_refl _, by simp, by simp, fun j u hu => by simp at hu⟩⟩
    case c1 => exact HS.out.new ((Below.refl _ _).alloc (Nat.le_refl _) _)
    case c2 => exact ints_one _
    case c3 => unfold maxLen; omega
    case c4 => omega
    intro A' cap' w' hrow' hkeep' hin'
    have HR' := hid hrow'
    have HK' := hid hkeep'
    have HI' := hid hin'
    clear hrow' hkeep' hin'
    go_wp2
    go_ret
    have hrow' := HR'.out
    have hrow' : Row w' 3 1 A' n cap' (ints l) := by simpa using hrow'
    refine ⟨A', cap', rfl, hrow', fun k hk => ?_, ?_⟩
    · rcases HI'.out k hk with h | h
      · simp [InA] at h; omega
      · omega
    · have hk := (((Keep.refl NoF w).alloc _).trans HK'.out)
      exact ⟨hk.os, hk.tape, hk.output, hk.size, fun k hk' => hk.block k hk' (by
        rintro (h | h)
        · exact h
        · simp [InA] at h; omega)⟩

/-- What is read of a line. -/
def HeldAs (w : World) (items : List Int) (lost : Int) (e : Ending) (w' : World) : Prop :=
  ∃ A cap, e = .returned (.agg #[.slice A items.length cap, .int .i64 lost]) ∧ Row w' 3 1 A items.length cap (ints items) ∧ (∀ k, InA A k → w.heap.size ≤ k) ∧ Below w.heap.size w w'

end Go.Proofs.YtldllmhgofacbaaGreatDoor
