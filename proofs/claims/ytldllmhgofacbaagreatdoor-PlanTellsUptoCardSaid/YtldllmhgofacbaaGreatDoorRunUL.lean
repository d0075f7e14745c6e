/- Several parts: each begins with what it says. -/
import Derived.Test.YtldllmhgofacbaaGreatDoorTickUL
import Derived.Test.YtldllmhgofacbaaGreatDoorSameUL
import Derived.Test.YtldllmhgofacbaaGreatDoorKernNewL
import Derived.Test.YtldllmhgofacbaaGreatDoorGetUL
import Derived.Test.YtldllmhgofacbaaGreatDoorKLawUL
import Derived.Test.YtldllmhgofacbaaGreatDoorPlanMemL
/- Rows that grow by appending, lists of what is held, and a kernel that runs on: what stays of each. -/
namespace Go.Proofs.YtldllmhgofacbaaGreatDoor
open Go.RowKit
set_option maxRecDepth 100000

/-- A row in new memory, and nothing old has changed. -/
structure Grow (w wr : World) (e sz : Nat) (A : Option Addr) (n c : Nat) (xs : List Value) : Prop where
  row : Row wr e sz A n c xs
  fresh : ∀ j, InA A j → w.heap.size ≤ j
  below : Below w.heap.size w wr
section
variable {w wr w3 w4 : World} {e sz n c c' : Nat} {A A' : Option Addr} {xs news : List Value}
theorem Grow.nil (h : Below w.heap.size w wr) : Grow w wr e sz none 0 0 [] := ⟨Row.nil _ _ _, fun j hj => by simp [InA] at hj, h⟩
theorem Grow.more (h : Grow w wr e sz A n c xs) (h3 : Below wr.heap.size wr w3) (hr : Row w4 e sz A' (n + 1) c' (xs ++ news)) (hk : Keep (InA A) w3 w4) (hn : ∀ j, InA A' j → InA A j ∨ w3.heap.size ≤ j) : Grow w w4 e sz A' (n + 1) c' (xs ++ news) := by
  have s1 := h.below.size
  have s3 := h3.size
  refine ⟨hr, fun j hj => ?_, Keep.below (F := NoF) ((Keep.of_below NoF (h.below.trans (h3.mono s1))).then hk fun j hj hA => by have := h.fresh j hA; omega) (Nat.le_refl _) (fun j h => h.elim)⟩
  rcases hn j hj with h5 | h5
  · exact h.fresh j h5
  · omega
theorem Grow.new (h : Grow w wr e sz A n c xs) (hb : Below wr.heap.size wr w3) : Grow w w3 e sz A n c xs := ⟨h.row.new hb, h.fresh, h.below.trans (hb.mono h.below.size)⟩
end

theorem held_one (h : Hm) : ∀ u ∈ h.cells, u.oneCell' = true := by
  intro u hu
  simp [Hm.cells] at hu
  rcases hu with rfl | rfl <;> rfl
section
variable {w wr w2 w3 w4 : World} {n c c' : Nat} {A A' : Option Addr} {hs : List Hm} {h1 : Hm}
end
section
variable {w wr w3 : World} {kb : Nat} {p : Pl} {M M' : KM} {k k' : Kst}
end
end Go.Proofs.YtldllmhgofacbaaGreatDoor

/- Package kernel: New, Tick, State, Wire, Time of a kernel that runs in new memory; and what a plan that is right says of its kernel. -/
namespace Go.Proofs.YtldllmhgofacbaaGreatDoor
open Go.RowKit
set_option maxRecDepth 100000

section
variable {w wr : World} {kb : Nat} {p : Pl} {M : KM} {k : Kst}
theorem wires_few {p : Pl} (hp : PlOk p) : p.wires.length ≤ 12 := by
  have h := hp.flow
  unfold flowChk at h
  split at h
  · simp at h
  · omega
theorem lines_len {B : Int} (hk : KOk p k B) : k.lines.length = p.wires.length := by rw [← hk.lines, List.length_map]
end
theorem tick_room_time (p : Pl) (hp : PlOk p) (k : Kst) {B : Int} (hk : KOk p k B) : (tick p k).2.time = k.time + 1 := by
  rcases tick_meets hp hk (spans_ok hp) with h0 | ⟨r, ops, s, o, h0, hc, hs, ho⟩
  · unfold tick; rw [tick_none h0]
  · unfold tick; rw [tick_room h0 hc hs ho]
theorem runK_time (p : Pl) (hp : PlOk p) : ∀ t : Nat, (runK p t).time = t
  | 0 => rfl
  | t + 1 => by
    have h := (tick_room_time p hp (runK p t) (runK_ok hp t))
    show (tick p (runK p t)).2.time = _
    rw [h, runK_time p hp t]; rfl
end Go.Proofs.YtldllmhgofacbaaGreatDoor

/- Package kernel: the contract of Poke, for every kernel that is right; and the reference's. -/
namespace Go.Proofs.YtldllmhgofacbaaGreatDoor
open Go.RowKit
set_option maxRecDepth 100000
attribute [local go_sem ↓] Go.wp_at_zero Go.wp_at_succ

theorem put_cells (s : St) {c : Nat} (hc : c < 6) (v : Int) : (s.put c v).cells = s.cells.set (1 + c) (.int .i64 v) := by
  rcases six hc with rfl | rfl | rfl | rfl | rfl | rfl <;> rfl
section
variable {TK TL TP kb : Nat} {w : World} {M : KM} {k : Kst}
end
/-- May a cell be poked? -/
def pokeOk (n : Nat) (r c v : Int) : Bool := decide (0 ≤ r ∧ r < n ∧ 0 ≤ c ∧ c < 6 ∧ 0 ≤ v ∧ v < 1000)
def pokeK (k : Kst) (r c v : Int) : Kst := ⟨k.rooms.set r.toNat ((k.rooms.getD r.toNat St.zero).put c.toNat v), k.lines, k.time⟩
section
variable {kb : Nat} {w : World} {M : KM} {k : Kst}
end
end Go.Proofs.YtldllmhgofacbaaGreatDoor

/- A plan of one room as a program lays it: one block for its code, one for the rooms, one for its spans. -/
namespace Go.Proofs.YtldllmhgofacbaaGreatDoor
open Go.RowKit
set_option maxRecDepth 100000

theorem sl_blk {w : World} {b t : Nat} {cs : Array Value} (h : w.heap[b]? = some (.cells cs t (0, 0))) (sz n : Nat) (xs : List Value) (hx : cs.toList = xs) (hn : xs.length = n * sz) : Sl w (some ⟨b, 0, none⟩) sz n xs := by
  subst hx
  refine ⟨hn, fun _ => ⟨b, 0, rfl, blk_lt h, fun j u hu => ?_⟩⟩
  rw [Nat.zero_add, blk_cell h]
  simpa using hu
theorem lit_slW (b n : Nat) (hn : n ≤ 100) : SlW (some ⟨b, 0, none⟩) n n := ⟨Nat.le_refl _, by unfold maxLen; omega, fun h => by cases h⟩
theorem fits_lit {a : Int} (h : -1000 ≤ a ∧ a ≤ 1000) : Fits a := ⟨by omega, by omega⟩
/-- The plan as it lies: code at ob, rooms at rb, spans at sb. -/
def onePM (ob rb sb : Nat) (ops : List Op) (T : Int) (spans : List Span) : PM :=
  ⟨some ⟨rb, 0, none⟩, 1, [⟨some ⟨ob, 0, none⟩, ops.length, ops⟩], T, some ⟨sb, 0, none⟩, spans.length, spans, none, 0, []⟩
theorem one_plan {w : World} {ob rb sb : Nat} {ops : List Op} {T : Int} {spans : List Span} {t1 t2 t3 : Nat}
    (h1 : w.heap[ob]? = some (.cells (ops.flatMap Op.cells).toArray t1 (0, 0))) (h2 : w.heap[rb]? = some (.cells #[.slice (some ⟨ob, 0, none⟩) ops.length ops.length] t2 (0, 0)))
    (h3 : w.heap[sb]? = some (.cells (spans.flatMap Span.cells).toArray t3 (0, 0)))
    (hl : ops.length ≤ 20) (hs : spans.length ≤ 12) (hT : -1000 ≤ T ∧ T ≤ 1000) (ho : ∀ o ∈ ops, o.Ok) (hso : ∀ s ∈ spans, s.Ok) : PlanAt w (onePM ob rb sb ops T spans) := by
  refine ⟨sl_blk h2 1 1 _ rfl rfl, lit_slW _ 1 (by omega), fun r hr => ?_, fits_lit hT, sl_blk h3 3 spans.length (spans.flatMap Span.cells) (by simp) (flatMap_len Span.cells 3 Span.len _), lit_slW _ spans.length (by omega), hso, Sl.nil _ _ _, ⟨Nat.le_refl _, Nat.zero_le _, fun _ => ⟨rfl, rfl⟩⟩, fun y hy => by simp [onePM] at hy⟩
  simp [onePM] at hr
  subst hr
  exact ⟨sl_blk h1 3 ops.length (ops.flatMap Op.cells) (by simp) (flatMap_len Op.cells 3 Op.len _), lit_slW _ ops.length (by omega), ho⟩
/-- Without spans. -/
def onePM0 (ob rb : Nat) (ops : List Op) (T : Int) : PM := ⟨some ⟨rb, 0, none⟩, 1, [⟨some ⟨ob, 0, none⟩, ops.length, ops⟩], T, none, 0, [], none, 0, []⟩
theorem one_plan0 {w : World} {ob rb : Nat} {ops : List Op} {T : Int} {t1 t2 : Nat}
    (h1 : w.heap[ob]? = some (.cells (ops.flatMap Op.cells).toArray t1 (0, 0))) (h2 : w.heap[rb]? = some (.cells #[.slice (some ⟨ob, 0, none⟩) ops.length ops.length] t2 (0, 0)))
    (hl : ops.length ≤ 20) (hT : -1000 ≤ T ∧ T ≤ 1000) (ho : ∀ o ∈ ops, o.Ok) : PlanAt w (onePM0 ob rb ops T) := by
  refine ⟨sl_blk h2 1 1 _ rfl rfl, lit_slW _ 1 (by omega), fun r hr => ?_, fits_lit hT, Sl.nil _ _ _, ⟨Nat.le_refl _, Nat.zero_le _, fun _ => ⟨rfl, rfl⟩⟩, fun y hy => by simp [onePM0] at hy, Sl.nil _ _ _, ⟨Nat.le_refl _, Nat.zero_le _, fun _ => ⟨rfl, rfl⟩⟩, fun y hy => by simp [onePM0] at hy⟩
  simp [onePM0] at hr
  subst hr
  exact ⟨sl_blk h1 3 ops.length (ops.flatMap Op.cells) (by simp) (flatMap_len Op.cells 3 Op.len _), lit_slW _ ops.length (by omega), ho⟩
end Go.Proofs.YtldllmhgofacbaaGreatDoor
