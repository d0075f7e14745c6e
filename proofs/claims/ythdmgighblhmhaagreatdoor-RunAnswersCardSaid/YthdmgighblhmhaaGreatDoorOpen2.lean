/- What an argument is, by its type's shape: states, code, plans, lists of lists of integers. -/
import Derived.Test.YthdmgighblhmhaaGreatDoorOpen
import Derived.Test.YthdmgighblhmhaaGreatDoorRLawU
import Derived.OpenShut
namespace Go.Proofs.YthdmgighblhmhaaGreatDoor
open Go.RowKit Go.ChangeShapes Go.WideShapes Go.ChangeAt
set_option maxRecDepth 100000

def Op.Ok (x : Op) : Prop := Fits x.what ∧ Fits x.a ∧ Fits x.b
/-- A state whose numbers are ints of Go. -/
def St.Fit (s : St) : Prop := Fits s.pc ∧ ∀ a, a < 6 → Fits (s.get a)
/-- A room's code that is read. -/
def Ro.At (w : World) (r : Ro) : Prop := Sl w r.A 3 r.ops.length (r.ops.flatMap Op.cells) ∧ SlW r.A r.c r.ops.length ∧ ∀ o ∈ r.ops, o.Ok
/-- A list that lies. -/
structure Il where
  A : Option Addr
  c : Nat
  l : List Int
def Il.cells (r : Il) : List Value := [.slice r.A r.l.length r.c]
theorem Il.len (x : Il) : x.cells.length = 1 := rfl
def Il.At (w : World) (r : Il) : Prop := Sl w r.A 1 r.l.length (r.l.flatMap fun a => [.int .i64 a]) ∧ SlW r.A r.c r.l.length ∧ ∀ a ∈ r.l, Fits a

/-- A plan as it lies. -/
structure PM where
  A : Option Addr
  c : Nat
  ros : List Ro
  ticks : Int
  sA : Option Addr
  sc : Nat
  spans : List Span
  wA : Option Addr
  wc : Nat
  wires : List Wire
structure PlanAt (w : World) (m : PM) : Prop where
  rows : Sl w m.A 1 m.ros.length (m.ros.flatMap Ro.cells)
  rowsW : SlW m.A m.c m.ros.length
  codes : ∀ r ∈ m.ros, r.At w
  fits : Fits m.ticks
  spans : Sl w m.sA 3 m.spans.length (m.spans.flatMap Span.cells)
  spansW : SlW m.sA m.sc m.spans.length
  spansOk : ∀ y ∈ m.spans, y.Ok
  wires : Sl w m.wA 4 m.wires.length (m.wires.flatMap Wire.cells)
  wiresW : SlW m.wA m.wc m.wires.length
  wiresOk : ∀ y ∈ m.wires, y.Ok
theorem Ro.At.new {w w' : World} {r : Ro} (h : r.At w) (hb : Below w.heap.size w w') : r.At w' := ⟨h.1.new hb, h.2⟩
theorem PlanAt.new {w w' : World} {m : PM} (h : PlanAt w m) (hb : Below w.heap.size w w') : PlanAt w' m :=
  ⟨h.rows.new hb, h.rowsW, fun r hr => (h.codes r hr).new hb, h.fits, h.spans.new hb, h.spansW, h.spansOk, h.wires.new hb, h.wiresW, h.wiresOk⟩

section
variable {H : Type} {enc : TypeId × Value → H} {P : Program} {w : World} {base : Nat} {spare : Nat → Bool} {held : Bool}
theorem trod_fields {t : TypeId} {fs : Array Field} {C : Nat} (ht : P.underlying t = some (.struct fs)) (hC : P.cellsOf t = C) {fuel : Nat} {cs : List Value} {x : DataW H × List MemPlace} (h : DataW.trod enc P w base spare held fuel t cs = some x) :
    cs.length = C ∧ ∀ (i : Nat) (T : TypeId) (o c : Nat), (fs[i]?).map (fun f : Field => (f.type, f.offset)) = some (T, o) → P.cellsOf T = c → ∃ n y, DataW.trod enc P w base spare held n T ((cs.drop o).take c) = some y := by
  obtain ⟨xs, n, _, _, hl, hxl, hg⟩ := DataW.trod_struct ht h
  refine ⟨hl.trans hC, fun i T o c hi hc => ?_⟩
  cases hf : fs[i]? with
  | none => rw [hf] at hi; simp at hi
  | some f =>
    rw [hf] at hi
    simp only [Option.map_some, Option.some.injEq, Prod.mk.injEq] at hi
    obtain ⟨rfl, rfl⟩ := hi
    have h1 := hg i f hf
    rw [hc] at h1
    have hlt : i < xs.length := by rw [hxl]; exact (Array.getElem?_eq_some_iff.1 hf).1
    exact ⟨n, _, h1.trans (List.getElem?_eq_getElem hlt)⟩
theorem trod_items {t e : TypeId} {N c : Nat} (ht : P.underlying t = some (.array N e)) (hc : P.cellsOf e = c) {fuel : Nat} {cs : List Value} {x : DataW H × List MemPlace} (h : DataW.trod enc P w base spare held fuel t cs = some x) :
    ∀ i, i < N → ∃ n y, DataW.trod enc P w base spare held n e ((cs.drop (i * c)).take c) = some y := by
  obtain ⟨xs, n, _, _, hl, hxl, hg⟩ := DataW.trod_array ht h
  intro i hi
  have h1 := hg i hi
  rw [hc] at h1
  exact ⟨n, _, h1.trans (List.getElem?_eq_getElem (by omega))⟩
theorem trod_bool {t : TypeId} {fuel : Nat} {cs : List Value} {x : DataW H × List MemPlace} (ht : P.underlying t = some .bool) (h : DataW.trod enc P w base spare held fuel t cs = some x) : ∃ b, cs = [.bool b] := by
  cases fuel with
  | zero => simp [DataW.trod] at h
  | succ n =>
    unfold DataW.trod at h
    rw [ht] at h
    split at h <;> simp_all
end

section
variable {H : Type} {enc : TypeId × Value → H} {w : World} {base : Nat} {spare : Nat → Bool} {held : Bool}
theorem elem_op (n : Nat) (cs : List Value) (x : DataW H × List MemPlace) (h : DataW.trod enc Tryz.prog w base spare held n 72 cs = some x) : ∃ a : Op, cs = a.cells ∧ a.Ok := by
  obtain ⟨zs, h1, rfl, h3⟩ := trod_ints Tryz.underlying72 Tryz.underlying3 (by kernel_rfl) (by kernel_rfl) (by decide) h
  match zs, h1 with
  | [a, b, c], _ => exact ⟨⟨a, b, c⟩, rfl, h3 a (by simp), h3 b (by simp), h3 c (by simp)⟩
theorem elem_ops (n : Nat) (cs : List Value) (x : DataW H × List MemPlace) (h : DataW.trod enc Tryz.prog w base spare held n 70 cs = some x) : ∃ a : Ro, cs = a.cells ∧ a.At w := by
  obtain ⟨A, c, l, hcs, h1, h2, h3⟩ := open_sl (sz := 3) Op.cells Op.Ok Op.len Tryz.underlying70 (by kernel_rfl) (by decide) elem_op h
  exact ⟨⟨A, c, l⟩, hcs, h1, h2, h3⟩
theorem open_ops {b0 : Nat} {r : Reach} {v : Value} {d : DataW H} {p : List MemPlace} (hv : Value.okWide Tryz.prog w r b0 70 v) (h : DataW.Trod enc Tryz.prog w base spare held 70 v d p) :
    ∃ (A : Option Addr) (c : Nat) (l : List Op), v = .slice A l.length c ∧ Sl w A 3 l.length (l.flatMap Op.cells) ∧ SlW A c l.length ∧ (∀ y ∈ l, y.Ok) :=
  open_sl_arg (sz := 3) _ Op.Ok (fun _ => rfl) Tryz.underlying70 (by kernel_rfl) (by decide) elem_op hv h
theorem open_op {b0 : Nat} {r : Reach} {v : Value} {d : DataW H} {p : List MemPlace} (hv : Value.okWide Tryz.prog w r b0 72 v) (h : DataW.Trod enc Tryz.prog w base spare held 72 v d p) :
    ∃ x : Op, v = .agg #[.int .i64 x.what, .int .i64 x.a, .int .i64 x.b] ∧ x.Ok := by
  obtain ⟨zs, h1, rfl, h3⟩ := trod_ints_arg Tryz.underlying72 Tryz.underlying3 (by kernel_rfl) (by kernel_rfl) (by decide) hv h
  match zs, h1 with
  | [a, b, c], _ => exact ⟨⟨a, b, c⟩, rfl, h3 a (by simp), h3 b (by simp), h3 c (by simp)⟩
theorem elem_list (n : Nat) (cs : List Value) (x : DataW H × List MemPlace) (h : DataW.trod enc Tryz.prog w base spare held n 63 cs = some x) : ∃ a : Il, cs = a.cells ∧ a.At w := by
  obtain ⟨A, c, l, hcs, h1, h2, h3⟩ := open_sl (sz := 1) (fun a => [Value.int .i64 a]) Fits (fun _ => rfl) Tryz.underlying63 (by kernel_rfl) (by decide) elem_int h
  exact ⟨⟨A, c, l⟩, hcs, h1, h2, h3⟩
theorem elem_state (n : Nat) (cs : List Value) (x : DataW H × List MemPlace) (h : DataW.trod enc Tryz.prog w base spare held n 81 cs = some x) : ∃ s : St, cs = s.cells ∧ s.Fit := by
  obtain ⟨hl, hf⟩ := trod_fields (C := 8) Tryz.underlying81 (by kernel_rfl) h
  match cs, hl with
  | [a0, a1, a2, a3, a4, a5, a6, a7], _ =>
    obtain ⟨_, _, h0⟩ := hf 0 3 0 1 rfl (by kernel_rfl)
    obtain ⟨_, _, h1⟩ := hf 1 79 1 6 rfl (by kernel_rfl)
    obtain ⟨_, _, h2⟩ := hf 2 4 7 1 rfl (by kernel_rfl)
    simp only [List.drop_succ_cons, List.drop_zero, List.take_succ_cons, List.take_zero] at h0 h1 h2
    obtain ⟨z, hz, fz⟩ := elem_int _ _ _ h0
    obtain ⟨b, hb⟩ := trod_bool Tryz.underlying4 h2
    have hi := trod_items (c := 1) Tryz.underlying79 (by kernel_rfl) h1
    have hj : ∀ i, i < 6 → ∃ z, ([a1, a2, a3, a4, a5, a6].drop (i * 1)).take 1 = [Value.int .i64 z] ∧ Fits z := fun i h => by
      obtain ⟨_, _, g⟩ := hi i h
      exact elem_int _ _ _ g
    obtain ⟨z0, e0, f0⟩ := hj 0 (by omega)
    obtain ⟨z1, e1, f1⟩ := hj 1 (by omega)
    obtain ⟨z2, e2, f2⟩ := hj 2 (by omega)
    obtain ⟨z3, e3, f3⟩ := hj 3 (by omega)
    obtain ⟨z4, e4, f4⟩ := hj 4 (by omega)
    obtain ⟨z5, e5, f5⟩ := hj 5 (by omega)
    simp at hz hb e0 e1 e2 e3 e4 e5
    subst hz hb e0 e1 e2 e3 e4 e5
    exact ⟨⟨z, z0, z1, z2, z3, z4, z5, b⟩, rfl, fz, fun a ha => by rcases six ha with rfl | rfl | rfl | rfl | rfl | rfl <;> assumption⟩
theorem open_state {b0 : Nat} {r : Reach} {v : Value} {d : DataW H} {p : List MemPlace} (hv : Value.okWide Tryz.prog w r b0 81 v) (h : DataW.Trod enc Tryz.prog w base spare held 81 v d p) :
    ∃ s : St, v = .agg #[.int .i64 s.pc, .int .i64 s.c0, .int .i64 s.c1, .int .i64 s.c2, .int .i64 s.c3, .int .i64 s.c4, .int .i64 s.c5, .bool s.failed] ∧ s.Fit := by
  obtain ⟨cs, rfl, hsz⟩ := okWide_struct Tryz.underlying81 hv
  obtain ⟨fuel, hf'⟩ := h
  obtain ⟨s, h1, h3⟩ := elem_state _ _ _ hf'
  refine ⟨s, ?_, h3⟩
  simp [Value.cells] at h1
  obtain ⟨cs⟩ := cs
  simp at h1
  subst h1
  rfl
theorem open_plan {b0 : Nat} {r : Reach} {v : Value} {d : DataW H} {p : List MemPlace} (hv : Value.okWide Tryz.prog w r b0 31 v) (h : DataW.Trod enc Tryz.prog w base spare held 31 v d p) :
    ∃ m : PM, v = .agg #[.slice m.A m.ros.length m.c, .int .i64 m.ticks, .slice m.sA m.spans.length m.sc, .slice m.wA m.wires.length m.wc] ∧ PlanAt w m := by
  obtain ⟨cs, rfl, hsz⟩ := okWide_struct Tryz.underlying31 hv
  obtain ⟨fuel, hf'⟩ := h
  obtain ⟨hl, hf⟩ := trod_fields (C := 4) Tryz.underlying31 (by kernel_rfl) hf'
  obtain ⟨cs⟩ := cs
  simp only [Value.cells] at hl hf
  match cs, hl with
  | [a0, a1, a2, a3], _ =>
    obtain ⟨_, _, h0⟩ := hf 0 27 0 1 rfl (by kernel_rfl)
    obtain ⟨_, _, h1⟩ := hf 1 3 1 1 rfl (by kernel_rfl)
    obtain ⟨_, _, h2⟩ := hf 2 28 2 1 rfl (by kernel_rfl)
    obtain ⟨_, _, h3⟩ := hf 3 29 3 1 rfl (by kernel_rfl)
    simp only [List.drop_succ_cons, List.drop_zero, List.take_succ_cons, List.take_zero] at h0 h1 h2 h3
    obtain ⟨A, c, ros, e0, g0, g1, g2⟩ := open_sl (sz := 1) Ro.cells (Ro.At w) Ro.len Tryz.underlying27 (by kernel_rfl) (by decide) elem_ops h0
    obtain ⟨z, hz, fz⟩ := elem_int _ _ _ h1
    obtain ⟨sA, sc, spans, e2, g3, g4, g5⟩ := open_sl (sz := 3) Span.cells Span.Ok Span.len Tryz.underlying28 (by kernel_rfl) (by decide) elem_span h2
    obtain ⟨wA, wc, wires, e3, g6, g7, g8⟩ := open_sl (sz := 4) Wire.cells Wire.Ok Wire.len Tryz.underlying29 (by kernel_rfl) (by decide) elem_wire h3
    simp at e0 hz e2 e3
    subst e0 hz e2 e3
    exact ⟨⟨A, c, ros, z, sA, sc, spans, wA, wc, wires⟩, rfl, ⟨g0, g1, g2, fz, g3, g4, g5, g6, g7, g8⟩⟩
end
end Go.Proofs.YthdmgighblhmhaaGreatDoor
