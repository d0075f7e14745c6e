/- Several parts: each begins with what it says. -/
import Derived.Test.YtldllmhgofacbaaGreatDoorRoomWL
import Derived.Deep.DeepCutAuto
import Derived.IntWalk
/- Package room: the contract of Do, for each kind of op. -/
namespace Go.Proofs.YtldllmhgofacbaaGreatDoor
open Go.RowKit
set_option maxRecDepth 100000

/-- What a step finds: its op's cells, and where it stands. -/
structure DoHyp (w : World) (ob off n k : Nat) (what a b : Int) : Prop where
  lt : k < n
  most : n ≤ 20
  g0 : w.cell? ⟨ob, off + k * 3, none⟩ = some (.int .i64 what)
  g1 : w.cell? ⟨ob, off + k * 3 + 1, none⟩ = some (.int .i64 a)
  g2 : w.cell? ⟨ob, off + k * 3 + 2, none⟩ = some (.int .i64 b)
def DoneV (w : World) (t : St) (out : Int) (e : Ending) (w' : World) : Prop := e = .returned (.tuple #[.agg (stV t), .int .i64 out]) ∧ Below w.heap.size w w'

/-- The state's block, cell by cell. -/
structure StAt (w : World) (b : Nat) (s : St) : Prop where
  p : w.cell? ⟨b, 0, none⟩ = some (.int .i64 s.pc)
  c0 : w.cell? ⟨b, 1, none⟩ = some (.int .i64 s.c0)
  c1 : w.cell? ⟨b, 2, none⟩ = some (.int .i64 s.c1)
  c2 : w.cell? ⟨b, 3, none⟩ = some (.int .i64 s.c2)
  c3 : w.cell? ⟨b, 4, none⟩ = some (.int .i64 s.c3)
  c4 : w.cell? ⟨b, 5, none⟩ = some (.int .i64 s.c4)
  c5 : w.cell? ⟨b, 6, none⟩ = some (.int .i64 s.c5)
  f : w.cell? ⟨b, 7, none⟩ = some (.bool s.failed)
theorem stAt {w : World} {b t : Nat} {s : St} (h : w.heap[b]? = some (.cells (stV s) t (0, 0))) : StAt w b s :=
  ⟨blk_cell h 0, blk_cell h 1, blk_cell h 2, blk_cell h 3, blk_cell h 4, blk_cell h 5, blk_cell h 6, blk_cell h 7⟩
theorem stV_get (s : St) {a : Nat} (h : a < 6) : (stV s)[1 + a]? = some (.int .i64 (s.get a)) := by
  rcases six h with rfl | rfl | rfl | rfl | rfl | rfl <;> rfl
theorem stV_put (s : St) {a : Nat} (h : a < 6) (v : Int) : (stV s).setIfInBounds (1 + a) (.int .i64 v) = stV (s.put a v) := by
  rcases six h with rfl | rfl | rfl | rfl | rfl | rfl <;> rfl

/-- A state stored whole. -/
def put8 (w : World) (b : Nat) (t : St) : World :=
  (((((((w.setCell ⟨b, 0, none⟩ (.int .i64 t.pc)).setCell ⟨b, 1, none⟩ (.int .i64 t.c0)).setCell ⟨b, 2, none⟩ (.int .i64 t.c1)).setCell ⟨b, 3, none⟩ (.int .i64 t.c2)).setCell ⟨b, 4, none⟩ (.int .i64 t.c3)).setCell ⟨b, 5, none⟩ (.int .i64 t.c4)).setCell ⟨b, 6, none⟩ (.int .i64 t.c5)).setCell ⟨b, 7, none⟩ (.bool t.failed)
theorem put8_heap {w : World} {b T : Nat} {s t : St} (h : w.heap[b]? = some (.cells (stV s) T (0, 0))) : (put8 w b t).heap[b]? = some (.cells (stV t) T (0, 0)) := by
  unfold put8
  simp [hp_set, h, setObj, stV]
theorem put8_keep {F : Nat → Prop} {a w : World} (h : Keep F a w) {b : Nat} (hb : F b ∨ a.heap.size ≤ b) (t : St) : Keep F a (put8 w b t) := by
  unfold put8
  exact ((((((((h.setCell hb _).setCell hb _).setCell hb _).setCell hb _).setCell hb _).setCell hb _).setCell hb _).setCell hb _)
end Go.Proofs.YtldllmhgofacbaaGreatDoor

/- Package room: the contracts of Do, for any op, and of Step. -/
namespace Go.Proofs.YtldllmhgofacbaaGreatDoor
open Go.RowKit
set_option maxRecDepth 100000

/-- A step of a room: the state, what is sent, the fault. -/
def stepOf (l : List Op) (s : St) (got : Int) (is : Bool) : (St × Int) × Int :=
  if roomChk l s ≠ 0 then ((St.zero, 0), roomChk l s) else if is = true ∧ cellB got = false then ((St.zero, 0), 1)
  else match l[s.pc.toNat]? with
    | some o => (stepDo l.length o s got is, 0)
    | none => ((St.zero, 0), 0)
def StepV (w : World) (r : (St × Int) × Int) (e : Ending) (w' : World) : Prop := e = .returned (.tuple #[.agg (stV r.1.1), .int .i64 r.1.2, errV r.2]) ∧ Below w.heap.size w w'

end Go.Proofs.YtldllmhgofacbaaGreatDoor
