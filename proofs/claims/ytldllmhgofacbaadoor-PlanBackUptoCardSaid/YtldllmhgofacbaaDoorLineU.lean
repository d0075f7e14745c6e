/- Several parts: each begins with what it says. -/
import Derived.Test.YtldllmhgofacbaaDoorWire
/- Package wire: contracts of New, Send, Peek, Take, Held, for every line: what it holds then, and which blocks were written. -/
namespace Go.Proofs.YtldllmhgofacbaaDoor
open Go.RowKit
set_option maxRecDepth 100000

theorem Tryd.infoInt : (Tryd.prog.info? 3).map (fun i => (i.zero, i.size, i.bytes)) = some (some (.int .i64 0), 1, 8) := by kernel_rfl

def ints (l : List Int) : List Value := l.map (.int .i64)
theorem ints_len (l : List Int) : (ints l).length = l.length := by simp [ints]
theorem ints_app (l m : List Int) : ints (l ++ m) = ints l ++ ints m := by simp [ints]
theorem ints_one (l : List Int) : ∀ u ∈ ints l, u.oneCell' = true := by
  intro u hu; simp [ints] at hu; obtain ⟨a, _, rfl⟩ := hu; rfl

def LF (b : Nat) (A : Option Addr) : Nat → Prop := fun k => k = b ∨ InA A k

structure LineFacts (w : World) (b : Nat) (A : Option Addr) (cap : Nat) (x : Wire) (n : Nat) (lost : Int) : Prop where
  c2 : w.cell? ⟨b, 2, none⟩ = some (.int .i64 x.kind)
  c3 : w.cell? ⟨b, 3, none⟩ = some (.int .i64 x.deep)
  c4 : w.cell? ⟨b, 4, none⟩ = some (.slice A n cap)
  c5 : w.cell? ⟨b, 5, none⟩ = some (.int .i64 lost)
  f4 : w.frozen? ⟨b, 4, none⟩ = false
  f5 : w.frozen? ⟨b, 5, none⟩ = false
  lt : b < w.heap.size

def lineSend (x : Wire) (items : List Int) (lost n : Int) : Bool × List Int × Int :=
  if x.kind = 1 then (true, [n], lost) else if (items.length : Int) = x.deep then (false, items, lost + 1) else (true, items ++ [n], lost)
def lineTake (x : Wire) (items : List Int) : List Int := if x.kind = 2 then items.tail else items

end Go.Proofs.YtldllmhgofacbaaDoor

/- Package wire: contracts of New and Held, and of slices.Clone at []int. -/
namespace Go.Proofs.YtldllmhgofacbaaDoor
open Go.RowKit
set_option maxRecDepth 100000

/-- A copy of what is read, in new memory. -/
def Cloned (w : World) (T sz : Nat) (n : Nat) (xs : List Value) (e : Ending) (w' : World) : Prop :=
  ∃ A cap, e = .returned (.slice A n cap) ∧ Row w' T sz A n cap xs ∧ (∀ k, InA A k → w.heap.size ≤ k) ∧ Below w.heap.size w w'

/-- What is read of a line. -/
def HeldAs (w : World) (items : List Int) (lost : Int) (e : Ending) (w' : World) : Prop :=
  ∃ A cap, e = .returned (.agg #[.slice A items.length cap, .int .i64 lost]) ∧ Row w' 3 1 A items.length cap (ints items) ∧ (∀ k, InA A k → w.heap.size ≤ k) ∧ Below w.heap.size w w'

end Go.Proofs.YtldllmhgofacbaaDoor
