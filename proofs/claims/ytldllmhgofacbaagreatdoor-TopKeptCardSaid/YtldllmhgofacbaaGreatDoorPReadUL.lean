/- Several parts: each begins with what it says. -/
import Derived.Test.YtldllmhgofacbaaGreatDoorPTextUL
import Derived.Test.YtldllmhgofacbaaGreatDoorRKernUL
import Derived.Test.YtldllmhgofacbaaGreatDoorKernU
import Derived.Test.YtldllmhgofacbaaGreatDoorRangeUL
import Derived.Test.YtldllmhgofacbaaGreatDoorRunUL
import Derived.BigRegion
import Derived.Deep.RegionLaw
import Derived.Deep.RegionHeld3
import Derived.Test.YtldllmhgofacbaaGreatDoorBaseU
/- Package plan: a reader as it lies, and the contract of take, for each part. Conditions: none. -/
namespace Go.Proofs.YtldllmhgofacbaaGreatDoor
open Go.RowKit
set_option maxRecDepth 100000

def rdCells (m : PM) (part : Nat) (bg : Bool) : Array Value := #[.slice m.A m.ros.length m.c, .int .i64 m.ticks, .slice m.sA m.spans.length m.sc, .slice m.wA m.wires.length m.wc, .int .i64 part, .bool bg]
/-- What a step of the reader may write. -/
def rdF (m : PM) (b j : Nat) : Prop := j = b ∨ InA m.A j ∨ InA m.sA j ∨ InA m.wA j
section
variable {base b part : Nat} {w w' w0 : World} {m : PM} {bg : Bool}
end
/-- A row of numbers that is read. -/
theorem nums_cell {w : World} {A : Option Addr} {n : Nat} {ns : List Nat} (h : Sl w A 1 n (ints (ns.map Int.ofNat))) {j N : Nat} (hj : ns[j]? = some N) (hn : 0 < n) : ∃ b off, A = some ⟨b, off, none⟩ ∧ b < w.heap.size ∧ w.cell? ⟨b, off + j, none⟩ = some (.int .i64 (N : Int)) := by
  obtain ⟨b, off, hA, hb, hx⟩ := h.2 hn
  exact ⟨b, off, hA, hb, hx j _ (by unfold ints; rw [List.getElem?_map, List.getElem?_map, hj]; rfl)⟩
theorem nums_one {w : World} {A : Option Addr} {N0 : Nat} (h : Sl w A 1 1 (ints ([N0].map Int.ofNat))) : ∃ b off, A = some ⟨b, off, none⟩ ∧ b < w.heap.size ∧ w.cell? ⟨b, off, none⟩ = some (.int .i64 N0) := nums_cell h (j := 0) rfl (by decide)
theorem nums_four {w : World} {A : Option Addr} {n : Nat} {ns : List Nat} (h : Sl w A 1 n (ints (ns.map Int.ofNat))) (hn : 0 < n) : ∃ b off, A = some ⟨b, off, none⟩ ∧ b < w.heap.size ∧ ∀ (j N : Nat), ns[j]? = some N → w.cell? ⟨b, off + j, none⟩ = some (.int .i64 (N : Int)) := by
  obtain ⟨b, off, hA, hb, hx⟩ := h.2 hn
  exact ⟨b, off, hA, hb, fun j N hj => hx j _ (by unfold ints; rw [List.getElem?_map, List.getElem?_map, hj]; rfl)⟩
section
variable {base b : Nat} {w : World} {m : PM} {bg : Bool}
theorem Tryz.infoRdOps : (Tryz.prog.info? 43).map (fun i => (i.zero, i.size, i.bytes)) = some (some (.slice none 0 0), 1, 24) := by kernel_rfl
end
end Go.Proofs.YtldllmhgofacbaaGreatDoor

/- Package plan: the contract of take, for a span and for a wire. Conditions: none. -/
namespace Go.Proofs.YtldllmhgofacbaaGreatDoor
open Go.RowKit
set_option maxRecDepth 100000

section
variable {base b : Nat} {w : World} {m : PM}
theorem Tryz.infoRdSpan : (Tryz.prog.info? 115).map (fun i => (i.zero, i.size, i.bytes)) = some (some (.agg #[.int .i64 0, .int .i64 0, .int .i64 0]), 3, 24) := by kernel_rfl
theorem Tryz.infoRdWire : (Tryz.prog.info? 117).map (fun i => (i.zero, i.size, i.bytes)) = some (some (.agg #[.int .i64 0, .int .i64 0, .int .i64 0, .int .i64 0]), 4, 32) := by kernel_rfl
end
end Go.Proofs.YtldllmhgofacbaaGreatDoor

/- Package plan: a reader whose last code is given an op more, and what a reader abides. Conditions: none. -/
namespace Go.Proofs.YtldllmhgofacbaaGreatDoor
open Go.RowKit
set_option maxRecDepth 100000

theorem addOp_snoc : ∀ (c : List (List Op)) (d : List Op) (o : Op), addOp (c ++ [d]) o = c ++ [d ++ [o]]
  | [], _, _ => rfl
  | x :: c, d, o => by
    have ih := addOp_snoc c d o
    cases hc : c ++ [d] with
    | nil => simp at hc
    | cons y r =>
      rw [List.cons_append, hc]
      unfold addOp
      rw [← hc, ih]; rfl
theorem ros_set (init : List Ro) (r x : Ro) : (init ++ [r]).set init.length x = init ++ [x] := by simp
end Go.Proofs.YtldllmhgofacbaaGreatDoor

/- The reference's plan while it is read: as it lies, and what each line does to it. Conditions: none. -/
namespace Go.Proofs.YtldllmhgofacbaaGreatDoor
open Go.RowKit
set_option maxRecDepth 100000

def rpCells (m : PM) : Array Value := #[.slice m.A m.ros.length m.c, .int .i64 m.ticks, .slice m.sA m.spans.length m.sc, .slice m.wA m.wires.length m.wc]
/-- A plan that is read: all that has been read lies in memory from base on; it itself lies below. -/
structure RpAt (base : Nat) (w : World) (b : Nat) (m : PM) : Prop where
  blk : w.heap[b]? = some (.cells (rpCells m) 26 (0, 0))
  rows : Row w 43 1 m.A m.ros.length m.c (m.ros.flatMap Ro.cells)
  codes : ∀ r ∈ m.ros, Row w 42 3 r.A r.ops.length r.c (r.ops.flatMap Op.cells)
  apart : ∀ i r last, m.ros[i]? = some r → m.ros[m.ros.length - 1]? = some last → i + 1 < m.ros.length → ∀ j, InA r.A j → ¬ InA last.A j
  spans : Row w 115 3 m.sA m.spans.length m.sc (m.spans.flatMap Span.cells)
  wires : Row w 117 4 m.wA m.wires.length m.wc (m.wires.flatMap Wire.cells)
  fresh : ∀ j, InA m.A j ∨ InA m.sA j ∨ InA m.wA j → base ≤ j
  freshC : ∀ r ∈ m.ros, ∀ j, InA r.A j → base ≤ j
  low : b < base
  big : base ≤ w.heap.size
/-- What a step may write. -/
def rpF (m : PM) (b j : Nat) : Prop := j = b ∨ InA m.A j ∨ (∃ r ∈ m.ros, InA r.A j) ∨ InA m.sA j ∨ InA m.wA j
section
variable {base b : Nat} {w w' w0 wd w4 : World} {m : PM}
theorem RpAt.keep {G : Nat → Prop} (h : RpAt base w b m) (hk : Keep G w w') (hG : ∀ j, G j → j ≠ b ∧ (j < base ∨ w.heap.size ≤ j)) : RpAt base w' b m := by
  have hs := h.big
  have hl := h.low
  refine ⟨(hk.block b (by omega) fun hb => (hG b hb).1 rfl).trans h.blk, h.rows.through hk fun j hj hg => ?_, fun r hr => (h.codes r hr).through hk fun j hj hg => ?_, h.apart, h.spans.through hk fun j hj hg => ?_, h.wires.through hk fun j hj hg => ?_, h.fresh, h.freshC, hl, Nat.le_trans hs hk.size⟩
  · have := (hG j hg).2; have := h.fresh j (.inl hj); have := h.rows.lt j hj; omega
  · have := (hG j hg).2; have := h.freshC r hr j hj; have := (h.codes r hr).lt j hj; omega
  · have := (hG j hg).2; have := h.fresh j (.inr (.inl hj)); have := h.spans.lt j hj; omega
  · have := (hG j hg).2; have := h.fresh j (.inr (.inr hj)); have := h.wires.lt j hj; omega
theorem RpAt.new (h : RpAt base w b m) (hb : Below w.heap.size w w') : RpAt base w' b m :=
  h.keep (Keep.of_below NoF hb) fun _ hj => hj.elim
theorem rpF_low (h : RpAt base w b m) {j : Nat} (hj : rpF m b j) : j = b ∨ base ≤ j := by
  rcases hj with rfl | hj | ⟨r, hr, hj⟩ | hj | hj
  · exact .inl rfl
  · exact .inr (h.fresh j (.inl hj))
  · exact .inr (h.freshC r hr j hj)
  · exact .inr (h.fresh j (.inr (.inl hj)))
  · exact .inr (h.fresh j (.inr (.inr hj)))
theorem RpAt.below (h : RpAt base w b m) (hk : Keep (rpF m b) w w') (hw : Below w0.heap.size w0 w) (h0 : w0.heap.size ≤ b) : Below w0.heap.size w0 w' :=
  hw.trans (hk.below hw.size fun j hj => by have := h.low; rcases rpF_low h hj with rfl | hj <;> omega)
/-- A span more. -/
theorem rp_span (h : RpAt base w b m) (hkd : Keep NoF w wd) {q : Nat} (hq : m.spans.length = q) {x : Span} {A' : Option Addr} {c' : Nat} (hr4 : Row w4 115 3 A' (q + 1) c' (m.spans.flatMap Span.cells ++ x.cells)) (hk4 : Keep (InA m.sA) wd w4) (hn4 : ∀ j, InA A' j → InA m.sA j ∨ wd.heap.size ≤ j) :
    RpAt base (w4.setCell ⟨b, 2, none⟩ (.slice A' (q + 1) c')) b ⟨m.A, m.c, m.ros, m.ticks, A', c', m.spans ++ [x], m.wA, m.wc, m.wires⟩ ∧ Keep (rpF m b) w (w4.setCell ⟨b, 2, none⟩ (.slice A' (q + 1) c')) := by
  have h1 := hkd.size
  have hbig := h.big
  have hl2 := h.low
  have hfr : ∀ j, InA m.sA j → base ≤ j := fun j hj => h.fresh j (.inr (.inl hj))
  have hkw : Keep (InA m.sA) w w4 := (hkd.mono (G := InA m.sA) fun j _ hj => hj.elim).then hk4 fun _ _ hj => hj
  have far : ∀ j, j ≠ b → (w4.setCell ⟨b, 2, none⟩ (.slice A' (q + 1) c')).heap[j]? = w4.heap[j]? := fun j hj => blk_far (p := ⟨b, 2, none⟩) (by simp; omega) _
  have hb4 : w4.heap[b]? = _ := (hkw.block b (by omega) fun hj => by have := hfr b hj; omega).trans h.blk
  have fresh' : ∀ j, InA A' j → base ≤ j := fun j hj => (hn4 j hj).elim (fun h => hfr j h) fun h => by omega
  refine ⟨⟨?_, ?_, fun r hr => ?_, h.apart, ?_, ?_, ?_, h.freshC, hl2, ?_⟩, ?_⟩
  · refine (blk_set hb4 2 _).trans ?_
    unfold rpCells
    simp only [List.length_append, List.length_singleton, ← hq]
    rfl
  · refine ((h.rows.through hkw fun j hj hg => (h.rows.apart2 h.spans (by decide)) j hj hg)).keep fun j hj _ => far j (by have := h.fresh j (.inl hj); omega)
  · refine ((h.codes r hr).through hkw fun j hj hg => ((h.codes r hr).apart2 h.spans (by decide)) j hj hg).keep fun j hj _ => far j (by have := h.freshC r hr j hj; omega)
  · have e : (m.spans ++ [x]).flatMap Span.cells = m.spans.flatMap Span.cells ++ x.cells := by rw [List.flatMap_append]; simp
    simp only [List.length_append, List.length_singleton, hq]
    rw [e]
    exact hr4.keep fun j hj _ => far j (by have := fresh' j hj; omega)
  · refine (h.wires.through hkw fun j hj hg => (h.wires.apart2 h.spans (by decide)) j hj hg).keep fun j hj _ => far j (by have := h.fresh j (.inr (.inr hj)); omega)
  · rintro j (hj | hj | hj)
    · exact h.fresh j (.inl hj)
    · exact fresh' j hj
    · exact h.fresh j (.inr (.inr hj))
  · rw [sz_set]; have := hkw.size; omega
  · exact (hkw.mono (G := rpF m b) fun j _ hj => .inr (.inr (.inr (.inl hj)))).setCell (.inl (.inl rfl)) _
/-- A wire more. -/
theorem rp_wire (h : RpAt base w b m) (hkd : Keep NoF w wd) {q : Nat} (hq : m.wires.length = q) {x : Wire} {A' : Option Addr} {c' : Nat} (hr4 : Row w4 117 4 A' (q + 1) c' (m.wires.flatMap Wire.cells ++ x.cells)) (hk4 : Keep (InA m.wA) wd w4) (hn4 : ∀ j, InA A' j → InA m.wA j ∨ wd.heap.size ≤ j) :
    RpAt base (w4.setCell ⟨b, 3, none⟩ (.slice A' (q + 1) c')) b ⟨m.A, m.c, m.ros, m.ticks, m.sA, m.sc, m.spans, A', c', m.wires ++ [x]⟩ ∧ Keep (rpF m b) w (w4.setCell ⟨b, 3, none⟩ (.slice A' (q + 1) c')) := by
  have h1 := hkd.size
  have hbig := h.big
  have hl2 := h.low
  have hfr : ∀ j, InA m.wA j → base ≤ j := fun j hj => h.fresh j (.inr (.inr hj))
  have hkw : Keep (InA m.wA) w w4 := (hkd.mono (G := InA m.wA) fun j _ hj => hj.elim).then hk4 fun _ _ hj => hj
  have far : ∀ j, j ≠ b → (w4.setCell ⟨b, 3, none⟩ (.slice A' (q + 1) c')).heap[j]? = w4.heap[j]? := fun j hj => blk_far (p := ⟨b, 3, none⟩) (by simp; omega) _
  have hb4 : w4.heap[b]? = _ := (hkw.block b (by omega) fun hj => by have := hfr b hj; omega).trans h.blk
  have fresh' : ∀ j, InA A' j → base ≤ j := fun j hj => (hn4 j hj).elim (fun h => hfr j h) fun h => by omega
  refine ⟨⟨?_, ?_, fun r hr => ?_, h.apart, ?_, ?_, ?_, h.freshC, hl2, ?_⟩, ?_⟩
  · refine (blk_set hb4 3 _).trans ?_
    unfold rpCells
    simp only [List.length_append, List.length_singleton, ← hq]
    rfl
  · refine ((h.rows.through hkw fun j hj hg => (h.rows.apart2 h.wires (by decide)) j hj hg)).keep fun j hj _ => far j (by have := h.fresh j (.inl hj); omega)
  · refine ((h.codes r hr).through hkw fun j hj hg => ((h.codes r hr).apart2 h.wires (by decide)) j hj hg).keep fun j hj _ => far j (by have := h.freshC r hr j hj; omega)
  · refine (h.spans.through hkw fun j hj hg => (h.spans.apart2 h.wires (by decide)) j hj hg).keep fun j hj _ => far j (by have := h.fresh j (.inr (.inl hj)); omega)
  · have e : (m.wires ++ [x]).flatMap Wire.cells = m.wires.flatMap Wire.cells ++ x.cells := by rw [List.flatMap_append]; simp
    simp only [List.length_append, List.length_singleton, hq]
    rw [e]
    exact hr4.keep fun j hj _ => far j (by have := fresh' j hj; omega)
  · rintro j (hj | hj | hj)
    · exact h.fresh j (.inl hj)
    · exact h.fresh j (.inr (.inl hj))
    · exact fresh' j hj
  · rw [sz_set]; have := hkw.size; omega
  · exact (hkw.mono (G := rpF m b) fun j _ hj => .inr (.inr (.inr (.inr hj)))).setCell (.inl (.inl rfl)) _
/-- A room more. -/
theorem rp_room (h : RpAt base w b m) (hkd : Keep NoF w wd) {q : Nat} (hq : m.ros.length = q) {A' : Option Addr} {c' : Nat} (hr4 : Row w4 43 1 A' (q + 1) c' (m.ros.flatMap Ro.cells ++ [.slice none 0 0])) (hk4 : Keep (InA m.A) wd w4) (hn4 : ∀ j, InA A' j → InA m.A j ∨ wd.heap.size ≤ j) :
    RpAt base (w4.setCell ⟨b, 0, none⟩ (.slice A' (q + 1) c')) b ⟨A', c', m.ros ++ [⟨none, 0, []⟩], m.ticks, m.sA, m.sc, m.spans, m.wA, m.wc, m.wires⟩ ∧ Keep (rpF m b) w (w4.setCell ⟨b, 0, none⟩ (.slice A' (q + 1) c')) := by
  have h1 := hkd.size
  have hbig := h.big
  have hl2 := h.low
  have hfr : ∀ j, InA m.A j → base ≤ j := fun j hj => h.fresh j (.inl hj)
  have hkw : Keep (InA m.A) w w4 := (hkd.mono (G := InA m.A) fun j _ hj => hj.elim).then hk4 fun _ _ hj => hj
  have far : ∀ j, j ≠ b → (w4.setCell ⟨b, 0, none⟩ (.slice A' (q + 1) c')).heap[j]? = w4.heap[j]? := fun j hj => blk_far (p := ⟨b, 0, none⟩) (by simp; omega) _
  have hb4 : w4.heap[b]? = _ := (hkw.block b (by omega) fun hj => by have := hfr b hj; omega).trans h.blk
  have fresh' : ∀ j, InA A' j → base ≤ j := fun j hj => (hn4 j hj).elim (fun h => hfr j h) fun h => by omega
  refine ⟨⟨?_, ?_, fun r hr => ?_, fun i r last hi hlast hlt j hj => ?_, ?_, ?_, ?_, fun r hr j hj => ?_, hl2, ?_⟩, ?_⟩
  · refine (blk_set hb4 0 _).trans ?_
    unfold rpCells
    simp only [List.length_append, List.length_singleton, ← hq]
    rfl
  · have e : (m.ros ++ [(⟨none, 0, []⟩ : Ro)]).flatMap Ro.cells = m.ros.flatMap Ro.cells ++ [.slice none 0 0] := by rw [List.flatMap_append]; rfl
    simp only [List.length_append, List.length_singleton, hq]
    rw [e]
    exact hr4.keep fun j hj _ => far j (by have := fresh' j hj; omega)
  · rcases List.mem_append.1 hr with hr | hr
    · refine ((h.codes r hr).through hkw fun j hj hg => ((h.codes r hr).apart2 h.rows (by decide)) j hj hg).keep fun j hj _ => far j (by have := h.freshC r hr j hj; omega)
    · rw [List.mem_singleton] at hr
      subst hr
      exact Row.nil _ _ _
  · simp only [List.length_append, List.length_singleton, Nat.add_sub_cancel] at hlast
    rw [List.getElem?_append_right (Nat.le_refl _), Nat.sub_self] at hlast
    simp at hlast
    subst hlast
    simp [InA]
  · refine (h.spans.through hkw fun j hj hg => (h.spans.apart2 h.rows (by decide)) j hj hg).keep fun j hj _ => far j (by have := h.fresh j (.inr (.inl hj)); omega)
  · refine (h.wires.through hkw fun j hj hg => (h.wires.apart2 h.rows (by decide)) j hj hg).keep fun j hj _ => far j (by have := h.fresh j (.inr (.inr hj)); omega)
  · rintro j (hj | hj | hj)
    · exact fresh' j hj
    · exact h.fresh j (.inr (.inl hj))
    · exact h.fresh j (.inr (.inr hj))
  · rcases List.mem_append.1 hr with hr | hr
    · exact h.freshC r hr j hj
    · rw [List.mem_singleton] at hr
      subst hr
      simp [InA] at hj
  · rw [sz_set]; have := hkw.size; omega
  · exact (hkw.mono (G := rpF m b) fun j _ hj => .inr (.inl hj)).setCell (.inl (.inl rfl)) _
/-- Where the last code's header lies, and that it may be written. -/
theorem rp_last (h : RpAt base w b m) {init : List Ro} {r : Ro} (hm : m.ros = init ++ [r]) :
    ∃ ab off, m.A = some ⟨ab, off, none⟩ ∧ w.cell? ⟨ab, off + init.length, none⟩ = some (.slice r.A r.ops.length r.c) ∧ ab < w.heap.size ∧ base ≤ ab := by
  obtain ⟨ab, off, hA, h1, h2, h3, _⟩ := h.rows.put1 Ro.cells Ro.len (i := init.length) (x := r) (by rw [hm]; simp) r (.slice r.A r.ops.length r.c) rfl
  exact ⟨ab, off, hA, h1, h3, h.fresh ab (.inl (by rw [hA]; simp [InA]))⟩
/-- An op more, of the last code. -/
theorem rp_op (h : RpAt base w b m) (hkd : Keep NoF w wd) {init : List Ro} {r : Ro} {o : Op} (hm : m.ros = init ++ [r]) {A' : Option Addr} {c' n : Nat} (hn : r.ops.length = n)
    (hr4 : Row w4 42 3 A' (n + 1) c' (r.ops.flatMap Op.cells ++ [.int .i64 o.what, .int .i64 o.a, .int .i64 o.b])) (hk4 : Keep (InA r.A) wd w4) (hn4 : ∀ j, InA A' j → InA r.A j ∨ wd.heap.size ≤ j) {ab off : Nat} (hA : m.A = some ⟨ab, off, none⟩) :
    w4.frozen? ⟨ab, off + init.length, none⟩ = false ∧ ab < w4.heap.size ∧ w4.cell? ⟨ab, off + init.length, none⟩ = some (.slice r.A n r.c) ∧
    ∃ m' : PM, m'.pl = (⟨addOp m.pl.code o, m.pl.ticks, m.pl.spans, m.pl.wires⟩ : Pl) ∧ RpAt base (w4.setCell ⟨ab, off + init.length, none⟩ (.slice A' (n + 1) c')) b m' ∧ Keep (rpF m b) w (w4.setCell ⟨ab, off + init.length, none⟩ (.slice A' (n + 1) c')) := by
  subst hn
  have hrm : r ∈ m.ros := by rw [hm]; simp
  have hrr := h.codes r hrm
  have hs := hkd.size
  have hs4 := hk4.size
  have hbig := h.big
  have hl := h.low
  have hab : InA m.A ab := by rw [hA]; simp [InA]
  have habl := h.rows.lt ab hab
  have habb := h.fresh ab (.inl hab)
  have hkw : Keep (InA r.A) w w4 := (hkd.mono (G := InA r.A) fun j _ hj => hj.elim).then hk4 fun _ _ hj => hj
  have rows4 : Row w4 43 1 m.A m.ros.length m.c (m.ros.flatMap Ro.cells) := h.rows.through hkw fun j hj hg => h.rows.apart2 hrr (by decide) j hj hg
  obtain ⟨ab', off', hA', hcl, hfz, hlt, _, _, _, hput⟩ := rows4.put1 Ro.cells Ro.len (i := init.length) (x := r) (by rw [hm]; simp) ⟨A', c', r.ops ++ [o]⟩ (.slice A' (r.ops.length + 1) c') (by unfold Ro.cells; rw [List.length_append]; rfl)
  rw [hA] at hA'
  injection hA' with hA'
  injection hA' with e1 e2
  subst e1 e2
  refine ⟨hfz, hlt, hcl, ?_⟩
  have hset : m.ros.set init.length ⟨A', c', r.ops ++ [o]⟩ = init ++ [⟨A', c', r.ops ++ [o]⟩] := by rw [hm, ros_set]
  rw [hset] at hput
  have hlen : m.ros.length = init.length + 1 := by rw [hm]; simp
  have far : ∀ j, j ≠ ab → (w4.setCell ⟨ab, off + init.length, none⟩ (.slice A' (r.ops.length + 1) c')).heap[j]? = w4.heap[j]? := fun j hj => blk_far (p := ⟨ab, off + init.length, none⟩) (by simp; omega) _
  have hfr : ∀ j, InA A' j → base ≤ j ∧ j ≠ ab := fun j hj => by
    rcases hn4 j hj with hj | hj
    · exact ⟨h.freshC r hrm j hj, fun e => hrr.apart2 h.rows (by decide) j hj (by rw [e]; exact hab)⟩
    · exact ⟨by omega, by omega⟩
  refine ⟨⟨m.A, m.c, init ++ [⟨A', c', r.ops ++ [o]⟩], m.ticks, m.sA, m.sc, m.spans, m.wA, m.wc, m.wires⟩, ?_, ⟨?_, ?_, fun r' hr' => ?_, fun i r' last hi hlast hlt' j hj => ?_, ?_, ?_, h.fresh, fun r' hr' j hj => ?_, hl, ?_⟩, ?_⟩
  · unfold PM.pl
    simp only [List.map_append, List.map_cons, List.map_nil, hm]
    rw [addOp_snoc]
  · refine (far b (by omega)).trans ((hkw.block b (by omega) fun hj => by have := h.freshC r hrm b hj; omega).trans (h.blk.trans ?_))
    unfold rpCells
    rw [hlen]
    simp
  · simp only [List.length_append, List.length_singleton]
    rw [← hlen]; exact hput
  · rcases List.mem_append.1 hr' with hr' | hr'
    · have hr2 : r' ∈ m.ros := by rw [hm]; simp [hr']
      obtain ⟨i, hi⟩ := List.getElem?_of_mem hr'
      have hil := (List.getElem?_eq_some_iff.1 hi).1
      have hap := h.apart i r' r (by rw [hm, List.getElem?_append_left hil]; exact hi) (by rw [hlen, Nat.add_sub_cancel, hm]; simp) (by omega)
      have hc := (h.codes r' hr2).through hkw fun j hj hg => hap j hj hg
      exact hc.keep fun j hj _ => far j fun e => (h.codes r' hr2).apart2 h.rows (by decide) j hj (by rw [e]; exact hab)
    · rw [List.mem_singleton] at hr'
      subst hr'
      have e : (r.ops ++ [o]).flatMap Op.cells = r.ops.flatMap Op.cells ++ [.int .i64 o.what, .int .i64 o.a, .int .i64 o.b] := by rw [List.flatMap_append]; rfl
      simp only [List.length_append, List.length_singleton]
      rw [e]
      exact hr4.keep fun j hj _ => far j (hfr j hj).2
  · simp only [List.length_append, List.length_singleton] at hlt' hlast
    rw [Nat.add_sub_cancel, List.getElem?_append_right (Nat.le_refl _), Nat.sub_self] at hlast
    injection hlast with hlast
    subst hlast
    have hil : i < init.length := by omega
    simp only [] at hi
    rw [List.getElem?_append_left hil] at hi
    have hr2 : r' ∈ m.ros := by rw [hm]; exact List.mem_append_left _ (List.mem_of_getElem? hi)
    intro hj2
    rcases hn4 j hj2 with hj2 | hj2
    · exact h.apart i r' r (by rw [hm, List.getElem?_append_left hil]; exact hi) (by rw [hlen, Nat.add_sub_cancel, hm]; simp) (by omega) j hj hj2
    · have := (h.codes r' hr2).lt j hj; omega
  · refine (h.spans.through hkw fun j hj hg => h.spans.apart2 hrr (by decide) j hj hg).keep fun j hj _ => far j fun e => h.spans.apart2 h.rows (by decide) j hj (by rw [e]; exact hab)
  · refine (h.wires.through hkw fun j hj hg => h.wires.apart2 hrr (by decide) j hj hg).keep fun j hj _ => far j fun e => h.wires.apart2 h.rows (by decide) j hj (by rw [e]; exact hab)
  · rcases List.mem_append.1 hr' with hr' | hr'
    · exact h.freshC r' (by rw [hm]; simp [hr']) j hj
    · rw [List.mem_singleton] at hr'
      subst hr'
      exact (hfr j hj).1
  · rw [sz_set]; omega
  · exact (hkw.mono (G := rpF m b) fun j _ hj => .inr (.inr (.inl ⟨r, hrm, hj⟩))).setCell (.inl (.inr (.inl hab))) _
end
end Go.Proofs.YtldllmhgofacbaaGreatDoor
