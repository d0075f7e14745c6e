/- Several parts: each begins with what it says. -/
import Derived.Test.YtldllmhgofacbaaGreatDoorRunU
import Derived.Test.YtldllmhgofacbaaGreatDoorKernPair
import Derived.IntWalk
import Derived.Test.YtldllmhgofacbaaGreatDoorLineU
import Derived.Test.YtldllmhgofacbaaGreatDoorOpen2
import Derived.Lib.SliceRun
import Derived.Deep.MidRow
/- Package trace: the contract of Run, for any plan and any number of ticks. -/
namespace Go.Proofs.YtldllmhgofacbaaGreatDoor
open Go.RowKit
set_option maxRecDepth 100000

theorem Tryz.infoEvent : (Tryz.prog.info? 50).map (fun i => (i.zero, i.size, i.bytes)) = some (some (.agg #[.int .i64 0, .int .i64 0, .int .i64 0, .int .i64 0]), 4, 32) := by kernel_rfl
def evAt (p : Pl) (t : Nat) : Ev := (tick p (runK p t)).1
/-- What is done in so many ticks. -/
def evsTo (p : Pl) (n : Nat) : List Ev := (List.range n).map (evAt p)
theorem evsTo_succ (p : Pl) (n : Nat) : evsTo p (n + 1) = evsTo p n ++ [evAt p n] := by simp [evsTo, List.range_succ]
theorem evsTo_len (p : Pl) (n : Nat) : (evsTo p n).length = n := by simp [evsTo]
def runE (p : Pl) (n : Int) : Int := if planChk p ≠ 0 then planChk p else if 0 ≤ n ∧ n ≤ 2000 then 0 else 1
/-- What Run answers. -/
def TraceV (w : World) (p : Pl) (n : Int) (e : Ending) (w' : World) : Prop :=
  (runE p n ≠ 0 ∧ e = .returned (.tuple #[.slice none 0 0, errV (runE p n)]) ∧ Below w.heap.size w w') ∨
  (runE p n = 0 ∧ ∃ A m c, e = .returned (.tuple #[.slice A m c, .nilIface]) ∧ (m : Int) = n ∧ Grow w w' 50 4 A m c ((evsTo p m).flatMap Ev.cells))
theorem ev_one (x : Ev) : ∀ u ∈ x.cells, u.oneCell' = true := by
  intro u hu
  simp [Ev.cells] at hu
  rcases hu with rfl | rfl | rfl | rfl <;> rfl
end Go.Proofs.YtldllmhgofacbaaGreatDoor

/- Package trace: the contract of check, for any list of events. -/
namespace Go.Proofs.YtldllmhgofacbaaGreatDoor
open Go.RowKit
set_option maxRecDepth 100000

def wIn (x lo hi : Int) : Bool := decide (lo ≤ x) && decide (x ≤ hi)
/-- What is wrong with one event: 0, nothing. -/
def evRight (x : Ev) : Bool := wIn x.tick 0 1000000 && (wIn x.room (-1) 4 && (wIn x.pc 0 19 && wIn x.what 0 5))
def evChk (x : Ev) : Int := if evRight x = false then 1 else if x.room < 0 ∧ (x.pc ≠ 0 ∨ x.what ≠ 0) then 3 else 0
def evsFirst : List Ev → Int
  | [] => 0
  | x :: l => if evChk x ≠ 0 then evChk x else evsFirst l
def evsChk (l : List Ev) : Int := if 2000 < l.length then 4 else evsFirst l
theorem evsFirst_at {l : List Ev} : ∀ {i : Nat} {x : Ev}, (∀ (j : Nat) (y : Ev), j < i → l[j]? = some y → evChk y = 0) → l[i]? = some x → evChk x ≠ 0 → evsFirst l = evChk x := by
  induction l with
  | nil => intro i x _ h; simp at h
  | cons a l ih =>
    intro i x hb hx hn
    cases i with
    | zero => simp at hx; subst hx; unfold evsFirst; rw [if_pos hn]
    | succ i =>
      unfold evsFirst
      rw [if_neg (fun h => h (hb 0 a (by omega) rfl))]
      exact ih (fun j y hj hy => hb (j + 1) y (by omega) hy) hx hn
theorem evsFirst_none {l : List Ev} : (∀ (j : Nat) (y : Ev), l[j]? = some y → evChk y = 0) → evsFirst l = 0 := by
  induction l with
  | nil => intro _; rfl
  | cons a l ih =>
    intro h
    unfold evsFirst
    rw [if_neg (fun e => e (h 0 a rfl))]
    exact ih fun j y hy => h (j + 1) y hy
/-- An event of a list that lies. -/
theorem sl_ev {w : World} {A : Option Addr} {n : Nat} {l : List Ev} (h : Sl w A 4 n (l.flatMap Ev.cells)) {i : Nat} {x : Ev} (hx : l[i]? = some x) (hn : i < n) :
    ∃ b off, A = some ⟨b, off, none⟩ ∧ b < w.heap.size ∧ w.cell? ⟨b, off + i * 4, none⟩ = some (.int .i64 x.tick) ∧ w.cell? ⟨b, off + i * 4 + 1, none⟩ = some (.int .i64 x.room) ∧ w.cell? ⟨b, off + i * 4 + 2, none⟩ = some (.int .i64 x.pc) ∧ w.cell? ⟨b, off + i * 4 + 3, none⟩ = some (.int .i64 x.what) := by
  obtain ⟨b, off, rfl, hlt, hc⟩ := h.2 (by omega)
  have hg := fun j hj => flatMap_get Ev.cells 4 (fun _ => rfl) l i j x hx hj
  refine ⟨b, off, rfl, hlt, ?_, ?_, ?_, ?_⟩
  · have := hc (i * 4 + 0) _ ((hg 0 (by decide)).trans rfl); simpa using this
  · have := hc (i * 4 + 1) _ ((hg 1 (by decide)).trans rfl); rwa [← Nat.add_assoc] at this
  · have := hc (i * 4 + 2) _ ((hg 2 (by decide)).trans rfl); rwa [← Nat.add_assoc] at this
  · have := hc (i * 4 + 3) _ ((hg 3 (by decide)).trans rfl); rwa [← Nat.add_assoc] at this
end Go.Proofs.YtldllmhgofacbaaGreatDoor

/- slices.Clone at []api.Event. -/
namespace Go.Proofs.YtldllmhgofacbaaGreatDoor
open Go.RowKit
set_option maxRecDepth 100000

theorem Tryz.infoClEvent : (Tryz.prog.info? 50).map (fun i => (i.zero, i.size, i.bytes)) = some (some (.agg #[.int .i64 0, .int .i64 0, .int .i64 0, .int .i64 0]), 4, 32) := by kernel_rfl
end Go.Proofs.YtldllmhgofacbaaGreatDoor

/- Package trace: the closure of Of, and slices.IndexFunc with it. -/
namespace Go.Proofs.YtldllmhgofacbaaGreatDoor
open Go.RowKit
set_option maxRecDepth 100000

def otherRoom (R : Int) (x : Ev) : Bool := !decide (x.room = R)
/-- The first event of another room: -1, none. -/
def IndexEv (w : World) (l : List Ev) (R : Int) (e : Ending) (w' : World) : Prop :=
  ∃ r : Int, e = .returned (.int .i64 r) ∧ Below w.heap.size w w' ∧ ((r = -1 ∧ ∀ x ∈ l, otherRoom R x = false) ∨ ∃ i : Nat, r = i ∧ i < l.length ∧ (∀ (j : Nat) (x : Ev), j < i → l[j]? = some x → otherRoom R x = false) ∧ ∀ x, l[i]? = some x → otherRoom R x = true)
end Go.Proofs.YtldllmhgofacbaaGreatDoor

/- slices.DeleteFunc at events, with the closure of trace.Of: how many are left; and trace.Of. -/
namespace Go.Proofs.YtldllmhgofacbaaGreatDoor
open Go.RowKit
set_option maxRecDepth 100000

/-- Several cells of one block are written. -/
theorem Keep.setCells {F : Nat → Prop} {a : World} {b : Nat} (hb : F b) : ∀ (vs : List Value) (o : Nat) (w : World), Keep F a w → Keep F a (w.setCells b o vs)
  | [], _, _, h => h
  | v :: r, o, w, h => by
    rw [World.setCells]
    exact Keep.setCells hb r (o + 1) _ (h.setCell (.inl hb) v)
/-- 'clear' of a slice of some elements of many cells. -/
theorem run_clear_many {P : Program} (w : World) (t e ty : TypeId) (z : Value) (k : Nat) (ht : P.underlying t = some (.slice e)) (hv : ∀ w, (zeroValue e).run P w = .ok z w) (hz : z.cells.size = k) (b o n c : Nat) (hn : 0 < n) (h1 : ∀ v ∈ (Builtin.zeroCells z.cells n).toList, v.oneCell' = true)
    (hc : w.there b o (n * k)) :
    ∃ vs : List Value, (Builtin.clear_ #[t] ty #[.slice (some ⟨b, o, none⟩) n c]).run P w = .ok (.tuple #[]) (w.setCells b o vs) := by
  have hl : (Builtin.zeroCells z.cells n).toList.length = n * k := by simp [Builtin.zeroCells, hz]
  have hst := run_storeCells_cells (P := P) b o (Builtin.zeroCells z.cells n).toList 0 w (by rw [hl]; simpa using fun j hj => (hc j hj).1) (by rw [hl]; simpa using fun j hj => (hc j hj).2) h1
  simp only [Nat.add_zero] at hst
  obtain ⟨m, rfl⟩ : ∃ m, n = m + 1 := ⟨n - 1, by omega⟩
  refine ⟨(Builtin.zeroCells z.cells (m + 1)).toList, ?_⟩
  simp only [Builtin.clear_]
  simp [run_underlying ht, hv, hst]
/-- Events of other rooms are struck: so many are left. -/
def left (R : Int) (l : List Ev) : Nat := (l.filter fun x => !otherRoom R x).length
theorem left_all {R : Int} {l : List Ev} (h : ∀ x ∈ l, otherRoom R x = false) : left R l = l.length := by
  unfold left
  rw [List.filter_eq_self.2 fun x hx => by rw [h x hx]; rfl]
theorem left_take {R : Int} {l : List Ev} {j : Nat} {x : Ev} (hx : l[j]? = some x) : left R (l.take (j + 1)) = left R (l.take j) + if otherRoom R x = false then 1 else 0 := by
  unfold left
  rw [List.take_add_one, hx, Option.toList_some, List.filter_append, List.length_append]
  cases h : otherRoom R x <;> simp [h]
theorem left_le {R : Int} (l : List Ev) : left R l ≤ l.length := List.length_filter_le _ _
/-- Midway: what is not yet read lies as it did. -/
structure DelMid (w wr : World) (b off n : Nat) (xs : List Value) (j : Nat) : Prop where
  rest : ∀ q v, j * 4 ≤ q → xs[q]? = some v → wr.cell? ⟨b, off + q, none⟩ = some v
  there : wr.there b off (n * 4)
  keep : Keep (fun k => k = b) w wr
section
variable {w wr w' : World} {b off n j : Nat} {xs : List Value}
theorem DelMid.new (h : DelMid w wr b off n xs j) (hb : Below wr.heap.size wr w') (hlt : b < wr.heap.size) : DelMid w w' b off n xs j :=
  ⟨fun q v hq hv => (hb.cell (p := ⟨b, off + q, none⟩) hlt).trans (h.rest q v hq hv), fun q hq => ⟨by rw [hb.cell (p := ⟨b, off + q, none⟩) hlt]; exact (h.there q hq).1, by
    have h1 := (h.there q hq).2
    rw [← h1]
    unfold World.frozen?
    rw [hb.block b hlt]⟩, h.keep.then (Keep.of_below NoF hb) fun _ _ hf => hf.elim⟩
theorem DelMid.on (h : DelMid w wr b off n xs j) {j' : Nat} (hj : j ≤ j') : DelMid w wr b off n xs j' := ⟨fun q v hq hv => h.rest q v (by omega) hv, h.there, h.keep⟩
theorem DelMid.put (h : DelMid w wr b off n xs j) {i : Nat} (hi : i < j) (vs : List Value) (hl : vs.length = 4) : DelMid w (wr.setCells b (off + i * 4) vs) b off n xs j :=
  ⟨fun q v hq hv => by
    rw [World.cell?_setCells_out b vs _ wr ⟨b, off + q, none⟩ fun _ _ => .inr (by simp only []; omega)]
    exact h.rest q v hq hv, World.there_setCells h.there _ _ _, Keep.setCells (F := fun k => k = b) rfl _ _ _ h.keep⟩
end
def DelV (w : World) (A : Option Addr) (n : Nat) (R : Int) (l : List Ev) (e : Ending) (w' : World) : Prop := ∃ A' k c', e = .returned (.slice A' k c') ∧ k = left R l ∧ Keep (InA A) w w' ∧ k ≤ n
end Go.Proofs.YtldllmhgofacbaaGreatDoor
