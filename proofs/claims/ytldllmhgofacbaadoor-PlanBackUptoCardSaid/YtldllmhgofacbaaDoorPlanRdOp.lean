/- Package plan: a reader whose last code is given an op more, and what a reader abides. Conditions: none. -/
import Derived.Test.YtldllmhgofacbaaDoorPlanTake
import Derived.Test.YtldllmhgofacbaaDoorBaseU
namespace Go.Proofs.YtldllmhgofacbaaDoor
open Go.RowKit
set_option maxRecDepth 100000

theorem addOp_snoc : ∀ (c : List (List Op)) (d : List Op) (o : Op), addOp (c ++ [d]) o = c ++ [d ++ [o]]
  | [], _, _ => rfl
  | x :: c, d, o => by
    have ih := addOp_snoc c d o
    cases hc : c ++ [d] with
    | nil => simp at hc
    | cons y r =>
      rw [List.cons_append, hc]
      unfold addOp
      rw [← hc, ih]; rfl
theorem ros_set (init : List Ro) (r x : Ro) : (init ++ [r]).set init.length x = init ++ [x] := by simp
/-- Where the last code's header lies, and that it may be written. -/
theorem rd_last {base b part : Nat} {w : World} {m : PM} {bg : Bool} (h : RdAt base w b m part bg) {init : List Ro} {r : Ro} (hm : m.ros = init ++ [r]) :
    ∃ ab off, m.A = some ⟨ab, off, none⟩ ∧ w.cell? ⟨ab, off + init.length, none⟩ = some (.slice r.A r.ops.length r.c) ∧ ab < w.heap.size ∧ base ≤ ab := by
  obtain ⟨ab, off, hA, h1, h2, h3, _⟩ := h.rows.put1 Ro.cells Ro.len (i := init.length) (x := r) (by rw [hm]; simp) r (.slice r.A r.ops.length r.c) rfl
  exact ⟨ab, off, hA, h1, h3, h.fresh ab (.inl (by rw [hA]; simp [InA]))⟩
theorem rd_op {base b part : Nat} {w wd w4 : World} {m : PM} {bg : Bool} (h : RdAt base w b m part bg) (hkd : Keep NoF w wd) {init : List Ro} {r : Ro} {o : Op} (hm : m.ros = init ++ [r]) {A' : Option Addr} {c' n : Nat} (hn : r.ops.length = n)
    (hr4 : Row w4 47 3 A' (n + 1) c' (r.ops.flatMap Op.cells ++ [.int .i64 o.what, .int .i64 o.a, .int .i64 o.b])) (hk4 : Keep (InA r.A) wd w4) (hn4 : ∀ j, InA A' j → InA r.A j ∨ wd.heap.size ≤ j) {ab off : Nat} (hA : m.A = some ⟨ab, off, none⟩) :
    w4.frozen? ⟨ab, off + init.length, none⟩ = false ∧ ab < w4.heap.size ∧ w4.cell? ⟨ab, off + init.length, none⟩ = some (.slice r.A n r.c) ∧
    ∃ m' : PM, m'.pl = (⟨addOp m.pl.code o, m.pl.ticks, m.pl.spans, m.pl.wires⟩ : Pl) ∧ RdAt base (w4.setCell ⟨ab, off + init.length, none⟩ (.slice A' (n + 1) c')) b m' part bg ∧ Keep (fun j => rdF m b j ∨ InA r.A j) w (w4.setCell ⟨ab, off + init.length, none⟩ (.slice A' (n + 1) c')) := by
  subst hn
  have hrm : r ∈ m.ros := by rw [hm]; simp
  have hrr := h.codes r hrm
  have hs := hkd.size
  have hs4 := hk4.size
  have hbig := h.big
  have hl := h.low
  have hab : InA m.A ab := by rw [hA]; simp [InA]
  have habl := h.rows.lt ab hab
  have habb := h.fresh ab (.inl hab)
  have hkw : Keep (InA r.A) w w4 := (hkd.mono (G := InA r.A) fun j _ hj => hj.elim).then hk4 fun _ _ hj => hj
  have rows4 : Row w4 50 1 m.A m.ros.length m.c (m.ros.flatMap Ro.cells) := h.rows.through hkw fun j hj hg => h.rows.apart2 hrr (by decide) j hj hg
  obtain ⟨ab', off', hA', hcl, hfz, hlt, _, _, _, hput⟩ := rows4.put1 Ro.cells Ro.len (i := init.length) (x := r) (by rw [hm]; simp) ⟨A', c', r.ops ++ [o]⟩ (.slice A' (r.ops.length + 1) c') (by unfold Ro.cells; rw [List.length_append]; rfl)
  rw [hA] at hA'
  injection hA' with hA'
  injection hA' with e1 e2
  subst e1 e2
  refine ⟨hfz, hlt, hcl, ?_⟩
  have hset : m.ros.set init.length ⟨A', c', r.ops ++ [o]⟩ = init ++ [⟨A', c', r.ops ++ [o]⟩] := by rw [hm, ros_set]
  rw [hset] at hput
  have hlen : m.ros.length = init.length + 1 := by rw [hm]; simp
  have far : ∀ j, j ≠ ab → (w4.setCell ⟨ab, off + init.length, none⟩ (.slice A' (r.ops.length + 1) c')).heap[j]? = w4.heap[j]? := fun j hj => blk_far (p := ⟨ab, off + init.length, none⟩) (by simp; omega) _
  have hfr : ∀ j, InA A' j → base ≤ j ∧ j ≠ ab := fun j hj => by
    rcases hn4 j hj with hj | hj
    · exact ⟨h.freshC r hrm j hj, fun e => hrr.apart2 h.rows (by decide) j hj (by rw [e]; exact hab)⟩
    · exact ⟨by omega, by omega⟩
  refine ⟨⟨m.A, m.c, init ++ [⟨A', c', r.ops ++ [o]⟩], m.ticks, m.sA, m.sc, m.spans, m.wA, m.wc, m.wires⟩, ?_, ⟨?_, ?_, fun r' hr' => ?_, fun i r' last hi hlast hlt' j hj => ?_, ?_, ?_, h.fresh, fun r' hr' j hj => ?_, hl, ?_⟩, ?_⟩
  · unfold PM.pl
    simp only [List.map_append, List.map_cons, List.map_nil, hm]
    rw [addOp_snoc]
  · refine (far b (by omega)).trans ((hkw.block b (by omega) fun hj => by have := h.freshC r hrm b hj; omega).trans (h.blk.trans ?_))
    unfold rdCells
    rw [hlen]
    simp
  · simp only [List.length_append, List.length_singleton]
    rw [← hlen]; exact hput
  · rcases List.mem_append.1 hr' with hr' | hr'
    · have hr2 : r' ∈ m.ros := by rw [hm]; simp [hr']
      obtain ⟨i, hi⟩ := List.getElem?_of_mem hr'
      have hil := (List.getElem?_eq_some_iff.1 hi).1
      have hap := h.apart i r' r (by rw [hm, List.getElem?_append_left hil]; exact hi) (by rw [hlen, Nat.add_sub_cancel, hm]; simp) (by omega)
      have hc := (h.codes r' hr2).through hkw fun j hj hg => hap j hj hg
      exact hc.keep fun j hj _ => far j fun e => (h.codes r' hr2).apart2 h.rows (by decide) j hj (by rw [e]; exact hab)
    · rw [List.mem_singleton] at hr'
      subst hr'
      have e : (r.ops ++ [o]).flatMap Op.cells = r.ops.flatMap Op.cells ++ [.int .i64 o.what, .int .i64 o.a, .int .i64 o.b] := by rw [List.flatMap_append]; rfl
      simp only [List.length_append, List.length_singleton]
      rw [e]
      exact hr4.keep fun j hj _ => far j (hfr j hj).2
  · simp only [List.length_append, List.length_singleton] at hlt' hlast
    rw [Nat.add_sub_cancel, List.getElem?_append_right (Nat.le_refl _), Nat.sub_self] at hlast
    injection hlast with hlast
    subst hlast
    have hil : i < init.length := by omega
    simp only [] at hi
    rw [List.getElem?_append_left hil] at hi
    have hr2 : r' ∈ m.ros := by rw [hm]; exact List.mem_append_left _ (List.mem_of_getElem? hi)
    intro hj2
    rcases hn4 j hj2 with hj2 | hj2
    · exact h.apart i r' r (by rw [hm, List.getElem?_append_left hil]; exact hi) (by rw [hlen, Nat.add_sub_cancel, hm]; simp) (by omega) j hj hj2
    · have := (h.codes r' hr2).lt j hj; omega
  · refine (h.spans.through hkw fun j hj hg => h.spans.apart2 hrr (by decide) j hj hg).keep fun j hj _ => far j fun e => h.spans.apart2 h.rows (by decide) j hj (by rw [e]; exact hab)
  · refine (h.wires.through hkw fun j hj hg => h.wires.apart2 hrr (by decide) j hj hg).keep fun j hj _ => far j fun e => h.wires.apart2 h.rows (by decide) j hj (by rw [e]; exact hab)
  · rcases List.mem_append.1 hr' with hr' | hr'
    · exact h.freshC r' (by rw [hm]; simp [hr']) j hj
    · rw [List.mem_singleton] at hr'
      subst hr'
      exact (hfr j hj).1
  · rw [sz_set]; omega
  · exact (hkw.mono (G := fun j => rdF m b j ∨ InA r.A j) fun j _ hj => .inr hj).setCell (.inl (.inl (.inr (.inl hab)))) _
end Go.Proofs.YtldllmhgofacbaaDoor
