/- A range over a function whose body appends onto a row of its own: the step of append inside a fence, and what the row and the world's blocks abide. Conditions: none. -/
import Derived.Test.YteneedblgaialaaDoorRangeCell
import Derived.Test.YteneedblgaialaaDoorOpen2
import Derived.Test.YteneedblgaialaaDoorBaseU
import Derived.RangeFuncBox
import Derived.Shelf.Abstract
import Derived.Shelf.RegionOpen
import Derived.WalkKit
import Derived.OwnWalkIn
import Derived.TacticsInMore
import Derived.LoopNIn
import Derived.LoopIn
import Derived.BigRegionIn
namespace Go.Proofs.YteneedblgaialaaDoor
open Go.RowKit Go.Shelf
set_option maxRecDepth 100000

theorem wpListIn_append_row {F : Fence} {n : Nat} {P : Program} {w : World} {ops : Array Oper} {rest : List Oper} {o : Oper} {a : Act} {Q : Exit → Act → World → Prop} (hg : o.guard = none) (s x : Operand) (t : TypeId)
    (hop : o.op = Op.call { callee := Callee.builtin Builtin.append, args := #[s, x], argTypes := #[t, t] })
    (e : TypeId) (i : TypeInfo) (z : Value) (size bytes : Nat) (ht : P.underlying t = some (.slice e)) (hi : P.info? e = some i) (hz : i.zero = some z)
    (hsize : i.size = size) (hby : i.bytes = bytes) (hzs : z.cells.size = size) (hsz : 0 < size)
    (A : Option Addr) (n' cap : Nat) (xs : List Value) (hs : a.eval s = .slice A n' cap) (hrow : Row w e size A n' cap xs)
    (A2 : Option Addr) (m c : Nat) (news : List Value) (hx : a.eval x = .slice A2 m c) (hnews : Sl w A2 size m news) (h1 : ∀ u ∈ news, u.oneCell' = true)
    (h63 : n' + m ≤ maxLen) (hbytes : (n' + m) * bytes ≤ 140737488355328)
    (h : ∀ A' cap' w', Row w' e size A' (n' + m) cap' (xs ++ news) → Keep (InA A) w w' → (∀ k, InA A' k → InA A k ∨ w.heap.size ≤ k) → wpListIn F n P ops Q rest (a.put o.dst (.slice A' (n' + m) cap')) w') :
    wpListIn F n P ops Q (o :: rest) a w := by
  refine wpListIn_plain hg fun K hK' => ?_
  obtain ⟨A', cap', w', hrun, r1, r2, r3⟩ := run_append_row (P := P) w t o.type e i z size bytes ht hi hz hsize hby hzs hsz A n' cap xs hrow A2 m c news hnews h1 h63 hbytes
  unfold Oper.wpIn
  refine ⟨?_, ?_⟩
  · simp [Oper.about, hop, resolve, Target.leads, Sem.run_pure]
  · rw [Oper.semAt_plain F _ _ (by rw [hop]; intro c hc'; cases hc')]
    simp [execOp, hop, resolve, invoke, builtin, hs, hx, hrun, Result.andThen]
    exact hK' _ _ (h A' cap' w' r1 r2 r3)

theorem Row.cellsAt {w : World} {e sz n cap : Nat} {A : Option Addr} {xs : List Value} (h : Row w e sz A n cap xs) {b : Nat} (hb : InA A b) : ∃ o : Obj, w.heap[b]? = some o ∧ o.isCells = true := by
  rcases h.2 with ⟨rfl, _⟩ | ⟨b', off, cur, rfl, hh, _⟩
  · simp [InA] at hb
  · have : b = b' := by simp [InA] at hb; omega
    rw [this]; exact ⟨_, hh, rfl⟩
theorem Row.turned {w w' : World} {e sz n cap : Nat} {A : Option Addr} {xs : List Value} {row : Option Nat} (h : Row w e sz A n cap xs) (hg : w.grownBy w' row) (hr : ∀ r, row = some r → ∃ o : Obj, w.heap[r]? = some o ∧ o.isCells = false) : Row w' e sz A n cap xs := by
  refine ⟨h.1, ?_⟩
  rcases h.2 with h0 | ⟨b, off, cur, rfl, hh, h1⟩
  · exact .inl h0
  · exact .inr ⟨b, off, cur, rfl, (grownBy_keeps_cells hg hr hh rfl).trans hh, h1⟩
theorem boxed_turned {w w' : World} {b t : Nat} {v : Value} {row : Option Nat} (h : Boxed w b t v) (hg : w.grownBy w' row) (hr : ∀ r, row = some r → ∃ o : Obj, w.heap[r]? = some o ∧ o.isCells = false) : Boxed w' b t v :=
  (grownBy_keeps_cells hg hr h rfl).trans h
theorem keeps_below {B : Nat} {W W' : World} (h : Below W.heap.size W W') : KeepsFrom B W W' := ⟨h.size, fun k _ _ hk _ => (h.block k (blk_lt hk)).trans hk⟩
theorem keeps_row {B : Nat} {W W' : World} {A : Option Addr} (hk : Keep (InA A) W W') (hc : ∀ b, InA A b → ∃ q : Obj, W.heap[b]? = some q ∧ q.isCells = true) : KeepsFrom B W W' := by
  refine ⟨hk.size, fun k o _ ho hn => ?_⟩
  by_cases hA : InA A k
  · obtain ⟨o', h1, h2⟩ := hc k hA
    rw [ho] at h1
    injection h1 with h1
    rw [h1, h2] at hn; cases hn
  · exact (hk.block k (blk_lt ho) hA).trans ho
theorem keeps_set {B : Nat} {W : World} (p : Addr) (v : Value) : KeepsFrom B W (W.setCell p v) := (KeepsOthers.setCell W p v).from B
end Go.Proofs.YteneedblgaialaaDoor
