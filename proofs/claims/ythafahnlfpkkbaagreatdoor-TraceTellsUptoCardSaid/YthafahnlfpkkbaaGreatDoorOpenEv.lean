/- What an argument of events is. Conditions: none. -/
import Derived.Test.YthafahnlfpkkbaaGreatDoorOpen2
import Derived.Test.YthafahnlfpkkbaaGreatDoorKLawU
namespace Go.Proofs.YthafahnlfpkkbaaGreatDoor
open Go.ChangeShapes Go.WideShapes Go.RowKit
set_option maxRecDepth 100000

structure Ev.Fit (x : Ev) : Prop where
  tick : Fits x.tick
  room : Fits x.room
  pc : Fits x.pc
  what : Fits x.what
section
variable {H : Type} {enc : TypeId × Value → H} {w : World} {base : Nat} {spare : Nat → Bool} {held : Bool}
theorem elem_event (n : Nat) (cs : List Value) (x : DataW H × List MemPlace) (h : DataW.trod enc Tryz.prog w base spare held n 32 cs = some x) : ∃ a : Ev, cs = a.cells ∧ a.Fit := by
  obtain ⟨zs, h1, rfl, h3⟩ := trod_ints Tryz.underlying32 Tryz.underlying3 (by kernel_rfl) (by kernel_rfl) (by decide) h
  match zs, h1 with
  | [a, b, c, d], _ => exact ⟨⟨a, b, c, d⟩, rfl, h3 a (by simp), h3 b (by simp), h3 c (by simp), h3 d (by simp)⟩
theorem open_events {b0 : Nat} {r : Go.Reach} {v : Value} {d : DataW H} {p : List MemPlace} (hv : Value.okWide Tryz.prog w r b0 27 v) (h : DataW.Trod enc Tryz.prog w base spare held 27 v d p) :
    ∃ (A : Option Addr) (c : Nat) (l : List Ev), v = .slice A l.length c ∧ Sl w A 4 l.length (l.flatMap Ev.cells) ∧ SlW A c l.length ∧ (∀ y ∈ l, y.Fit) :=
  open_sl_arg (sz := 4) _ Ev.Fit (fun _ => rfl) Tryz.underlying27 (by kernel_rfl) (by decide) elem_event hv h
end
end Go.Proofs.YthafahnlfpkkbaaGreatDoor
