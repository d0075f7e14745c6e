/- Several parts: each begins with what it says. -/
import Derived.Test.YtldllmhgofacbaaGreatDoorWhatUL
import Derived.Test.YtldllmhgofacbaaGreatDoorLineUL
import Derived.Deep.DeepCutAuto
import Derived.Deep.DrawnRows
/- Package kernel: the contracts of State, Wire, Poke, Time, for every kernel that is right. -/
namespace Go.Proofs.YtldllmhgofacbaaGreatDoor
open Go.RowKit
set_option maxRecDepth 100000
attribute [local go_sem ↓] Go.wp_at_zero Go.wp_at_succ

def inB (r : Int) (n : Nat) : Bool := decide (0 ≤ r ∧ r < n)
section
variable {kb : Nat} {w : World} {M : KM} {k : Kst}
def stateOf (k : Kst) (r : Int) : St × Int := if inB r k.rooms.length = true then (k.rooms.getD r.toNat St.zero, 0) else (St.zero, 1)
def StateV (w : World) (q : St × Int) (e : Ending) (w' : World) : Prop := e = .returned (.tuple #[.agg (stV q.1), errV q.2]) ∧ Below w.heap.size w w'
end
end Go.Proofs.YtldllmhgofacbaaGreatDoor

/- Package kernel: the contract of Wire, for every kernel that is right. -/
namespace Go.Proofs.YtldllmhgofacbaaGreatDoor
open Go.RowKit
set_option maxRecDepth 100000
attribute [local go_sem ↓] Go.wp_at_zero Go.wp_at_succ

/-- What is told of a wire, in new memory. -/
def WireV (w : World) (items : List Int) (lost : Int) (err : Int) (e : Ending) (w' : World) : Prop :=
  ∃ A cap, e = .returned (.tuple #[.agg #[.slice A items.length cap, .int .i64 lost], errV err]) ∧ Row w' 3 1 A items.length cap (ints items) ∧ (∀ k, InA A k → w.heap.size ≤ k) ∧ Below w.heap.size w w'
def wireOf (k : Kst) (i : Int) : (List Int × Int) × Int := if inB i k.lines.length = true then (((k.lines.getD i.toNat ⟨⟨0, 0, 0, 0⟩, [], 0⟩).items, (k.lines.getD i.toNat ⟨⟨0, 0, 0, 0⟩, [], 0⟩).lost), 0) else (([], 0), 1)
section
variable {kb : Nat} {w : World} {M : KM} {k : Kst}
end
end Go.Proofs.YtldllmhgofacbaaGreatDoor
