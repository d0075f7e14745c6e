/- Reading what Least and Rings told. -/
import Derived.Test.YtfokcjooibmigaaDoorRings
namespace Go.Proofs.YtfokcjooibmigaaDoor
open Go.RowKit
set_option maxRecDepth 100000

theorem Row.five {w : World} {A : Option Addr} {cap : Nat} {l : List Int} (h : Row w 3 1 A 5 cap (ints l)) :
    ∃ b off, A = some ⟨b, off, none⟩ ∧ b < w.heap.size ∧ ∀ (w' : World), Below w.heap.size w w' → ∀ i, i < 5 → w'.cell? ⟨b, off + i, none⟩ = some (.int .i64 (l.getD i 0)) := by
  obtain ⟨b, off, rfl, hb, hx⟩ := h.sl.2 (by omega)
  refine ⟨b, off, rfl, hb, fun w' hw i hi => (hw.cell (p := ⟨b, off + i, none⟩) hb).trans (hx i _ ?_)⟩
  have hl : l.length = 5 := by have := h.1; simpa [ints] using this
  simp [ints, hl, hi, List.getD]
theorem RingsAt.get {w : World} {B : Nat} {A : Option Addr} {n c : Nat} {rs : List Ri} (h : RingsAt w B A n c rs) {i : Nat} (hi : i < n) :
    ∃ r b off, rs[i]? = some r ∧ A = some ⟨b, off, none⟩ ∧ b < w.heap.size ∧ w.cell? ⟨b, off + i, none⟩ = some (.slice r.A r.xs.length r.c) ∧
      (0 < r.xs.length → ∃ b2 off2, r.A = some ⟨b2, off2, none⟩ ∧ b2 < w.heap.size ∧ ∀ j x, r.xs[j]? = some x → w.cell? ⟨b2, off2 + j, none⟩ = some (.int .i64 x)) := by
  have hl := h.len
  have hg := List.getElem?_eq_getElem (show i < rs.length by omega)
  obtain ⟨b, off, rfl, hb, hx⟩ := h.row.sl.2 (by omega)
  have h1 := flatMap_get Ri.cells 1 (fun _ => rfl) rs i 0 rs[i] hg (by omega)
  refine ⟨rs[i], b, off, hg, rfl, hb, hx i _ (by simpa [Ri.cells] using h1), fun h0 => ?_⟩
  obtain ⟨b2, off2, e2, hb2, hx2⟩ := (h.each _ (List.getElem_mem (by omega))).1.sl.2 h0
  exact ⟨b2, off2, e2, hb2, fun j x hj => hx2 j _ (by simp [ints, hj])⟩
theorem Below.drawnN {w a : World} {B : Nat} (h : Below B w a) (n : Nat) : Below B w (a.drewN n) := ⟨h.os, h.tape, h.output, h.size, h.block⟩
end Go.Proofs.YtfokcjooibmigaaDoor
