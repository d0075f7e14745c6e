/- The plain mathematics of framekeep's layers (spans, wires, flows): what each Go function computes, as Lean functions on plain data. No program in sight. -/
import Derived.Test.YtnighanlonkjbaaDoorBase
namespace Go.Proofs.YtnighanlonkjbaaDoor

def roomB (n : Int) : Bool := decide (0 ≤ n ∧ n < 5)
theorem roomB_true {n : Int} : roomB n = true ↔ 0 ≤ n ∧ n < 5 := by simp [roomB]
theorem roomB_false {n : Int} : roomB n = false ↔ n < 0 ∨ 5 ≤ n := by simp [roomB]; omega

structure Wire where
  fr : Int
  to : Int
  kind : Int
  deep : Int
def Wire.cells (x : Wire) : List Value := [.int .i64 x.fr, .int .i64 x.to, .int .i64 x.kind, .int .i64 x.deep]
def wireChk (x : Wire) : Int :=
  if roomB x.fr = false ∨ roomB x.to = false ∨ (x.kind ≠ 1 ∧ x.kind ≠ 2) ∨ x.deep < 1 ∨ 6 < x.deep ∨ (x.kind = 1 ∧ x.deep ≠ 1) then 1
  else if x.fr = x.to then 3 else 0

structure Span where
  fr : Int
  to : Int
  room : Int
def Span.cells (x : Span) : List Value := [.int .i64 x.fr, .int .i64 x.to, .int .i64 x.room]

theorem flatMap_get {α : Type} (f : α → List Value) (sz : Nat) (hf : ∀ x, (f x).length = sz) : ∀ (l : List α) (k j : Nat) (x : α), l[k]? = some x → j < sz → (l.flatMap f)[k * sz + j]? = (f x)[j]?
  | [], k, j, x, h, _ => by simp at h
  | y :: l, 0, j, x, h, hj => by
    simp at h; subst h
    rw [List.flatMap_cons, List.getElem?_append_left (by rw [hf]; omega)]
    simp
  | y :: l, k + 1, j, x, h, hj => by
    simp at h
    have := flatMap_get f sz hf l k j x h hj
    rw [List.flatMap_cons, List.getElem?_append_right (by rw [hf, Nat.succ_mul]; omega), hf]
    rw [← this]
    congr 1
    rw [Nat.succ_mul]; omega
theorem flatMap_len {α : Type} (f : α → List Value) (sz : Nat) (hf : ∀ x, (f x).length = sz) : ∀ (l : List α), (l.flatMap f).length = l.length * sz
  | [] => by simp
  | y :: l => by rw [List.flatMap_cons, List.length_append, hf, flatMap_len f sz hf l, List.length_cons, Nat.succ_mul]; omega
theorem Wire.len (x : Wire) : x.cells.length = 4 := rfl
theorem Span.len (x : Span) : x.cells.length = 3 := rfl

structure Op where
  what : Int
  a : Int
  b : Int
def Op.cells (x : Op) : List Value := [.int .i64 x.what, .int .i64 x.a, .int .i64 x.b]
theorem Op.len (x : Op) : x.cells.length = 3 := rfl
/-- A room's code as it lies: its slice, and its ops. -/
structure Ro where
  A : Option Addr
  c : Nat
  ops : List Op
def Ro.cells (r : Ro) : List Value := [.slice r.A r.ops.length r.c]
theorem Ro.len (x : Ro) : x.cells.length = 1 := rfl

/-- The plan of rooms that count. -/
def countOps : List Op := [⟨1, 1, 1⟩, ⟨3, 0, 1⟩]
def countSpans (n : Nat) : List Span := (List.range n).map fun (i : Nat) => (⟨i, i + 1, i⟩ : Span)
end Go.Proofs.YtnighanlonkjbaaDoor
