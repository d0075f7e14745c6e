/- Things of which all blocks are cells: they stand on while an iterator's records turn. Conditions: none. -/
import Derived.Test.YthafahnlfpkkbaaGreatDoorStandRow
import Derived.Test.YthafahnlfpkkbaaGreatDoorRangeU
namespace Go.Proofs.YthafahnlfpkkbaaGreatDoor
open Go.RowKit
set_option maxRecDepth 100000

/-- All its blocks are cells. -/
def Celled (t : Tg) : Prop := ∀ w : World, Lie w t → ∀ j, t.F j → ∃ o : Obj, w.heap[j]? = some o ∧ o.isCells = true
theorem cell_isCells {w : World} {b o : Nat} {v : Value} (h : w.cell? ⟨b, o, none⟩ = some v) : ∃ q : Obj, w.heap[b]? = some q ∧ q.isCells = true := by
  unfold World.cell? at h
  cases hb : w.heap[b]? with
  | none => rw [hb] at h; simp at h
  | some q =>
    refine ⟨q, rfl, ?_⟩
    rw [hb] at h
    cases q <;> first | rfl | simp at h
theorem sl_cells {w : World} {A : Option Addr} {sz n : Nat} {xs : List Value} (h : Sl w A sz n xs) (hn : 0 < n) (hsz : 0 < sz) {j : Nat} (hj : InA A j) : ∃ q : Obj, w.heap[j]? = some q ∧ q.isCells = true := by
  obtain ⟨b, off, rfl, hb, hx⟩ := h.2 hn
  have hjb : j = b := by simp [InA] at hj; omega
  subst hjb
  have hlen : 0 < xs.length := by
    rw [h.1]; exact Nat.mul_pos hn hsz
  exact cell_isCells (hx 0 _ (List.getElem?_eq_getElem hlen))
theorem plan_cells {w : World} {m : PM} (h : PlanAt w m) {j : Nat} (hj : planF m j) : ∃ q : Obj, w.heap[j]? = some q ∧ q.isCells = true := by
  rcases hj with ⟨h0, hj⟩ | ⟨r, hr, h0, hj⟩ | ⟨h0, hj⟩ | ⟨h0, hj⟩
  · exact sl_cells h.rows h0 (by decide) hj
  · exact sl_cells (h.codes r hr).1 h0 (by decide) hj
  · exact sl_cells h.spans h0 (by decide) hj
  · exact sl_cells h.wires h0 (by decide) hj
theorem kat_cells {TK TL TP : Nat} {w : World} {kb : Nat} {M : KM} {k : Kst} (h : KAt TK TL TP w kb M k) {j : Nat} (hj : TF kb M j) : ∃ q : Obj, w.heap[j]? = some q ∧ q.isCells = true := by
  rcases hj with (rfl | hj | ⟨a, ha, hj⟩) | hj | hj
  · exact ⟨_, h.blk, rfl⟩
  · exact h.rooms.cellsAt hj
  · obtain ⟨i, hi⟩ := List.mem_iff_getElem?.1 ha
    have hil := (List.getElem?_eq_some_iff.1 hi).1
    obtain ⟨cap, h1, h2⟩ := h.lines i _ a (List.getElem?_eq_getElem (by rw [← h.many]; exact hil)) hi
    rcases hj with rfl | hj
    · exact ⟨_, h1, rfl⟩
    · exact h2.cellsAt hj
  · exact h.ptrs.cellsAt hj
  · exact plan_cells h.plan hj
theorem celled_k (TK TL TP kb : Nat) (p : Pl) (M : KM) (k : Kst) : Celled (kT TK TL TP kb p M k) := fun _ h _ hj => kat_cells h.here.1 hj
theorem celled_plan (m : PM) : Celled (planT m) := fun _ h _ hj => plan_cells h.here hj
theorem celled_blk (b : Nat) {o : Obj} (ho : o.isCells = true) : Celled (blkT b o) := fun _ h j hj => by
  have e : j = b := hj
  subst e
  exact ⟨o, h.here, ho⟩
theorem celled_con (b : Nat) {o : Obj} (ho : o.isCells = true) : Celled (conT b o) := fun _ h j hj => by
  have e : j = b := hj
  subst e
  exact ⟨o, h.here, ho⟩

section
variable {w0 w w' : World} {ts : List Tg} {row : Option Nat}
/-- They stand on while a block that is no cells turns. -/
theorem Stand.turned (h : Stand w0 w ts) (hc : ∀ t ∈ ts, Celled t) (hg : w.grownBy w' row) (hr : ∀ r, row = some r → w0.heap.size ≤ r ∧ ∃ o : Obj, w.heap[r]? = some o ∧ o.isCells = false) : Stand w0 w' ts := by
  have hr2 : ∀ r, row = some r → ∃ o : Obj, w.heap[r]? = some o ∧ o.isCells = false := fun r e => (hr r e).2
  refine ⟨⟨fun t ht => (h.all.lies t ht).on hg.size fun j hl hF => ?_, h.all.apart⟩, h.fresh, h.below.grown hg h.below.size (fun k e => (hr k e).1)⟩
  obtain ⟨o, ho, hco⟩ := hc t ht w (h.all.lies t ht) j hF
  exact grownBy_keeps_cells hg hr2 ho hco
/-- What is no cells stays as it is while they go on. -/
def stillT (v : World) : Tg := ⟨fun j => ∃ o : Obj, v.heap[j]? = some o ∧ o.isCells = false, fun _ => False, fun w => v.heap.size ≤ w.heap.size ∧ ∀ (j : Nat) (o : Obj), v.heap[j]? = some o → o.isCells = false → w.heap[j]? = some o⟩
theorem still_lie (v : World) : Lie v (stillT v) :=
  ⟨⟨Nat.le_refl _, fun _ _ h _ => h⟩, fun _ ⟨_, h, _⟩ => blk_lt h, fun _ h => h.elim, fun _ hs hk => ⟨hs, fun j o h ho => (hk j (blk_lt h) ⟨o, h, ho⟩).trans h⟩⟩
theorem Stand.still (h : Stand w0 w ts) (hc : ∀ t ∈ ts, Celled t) : Stand w0 w (ts ++ [stillT w]) := by
  refine ⟨h.all.add (still_lie w) (fun u hu j h1 h2 => ?_) (fun u _ j h1 => h1.elim), fun u hu j h1 => ?_, h.below⟩
  · obtain ⟨o, ho, hco⟩ := hc u hu w (h.all.lies u hu) j ((h.all.lies u hu).sub j h1)
    obtain ⟨o', ho', hn⟩ := h2
    rw [ho] at ho'
    injection ho' with e
    rw [← e, hco] at hn
    cases hn
  · rcases List.mem_append.1 hu with hu | hu
    · exact h.fresh u hu j h1
    · simp at hu; subst hu; exact h1.elim
theorem still_keeps {B : Nat} {v : World} (h : (stillT v).P w) : KeepsFrom B v w := ⟨h.1, fun k o _ hk hn => h.2 k o hk hn⟩
/-- The first of two lists, one behind the other, with one of the second's. -/
theorem Stand.mem_last {us : List Tg} {t : Tg} (h : Stand w0 w (us ++ [t])) : Lie w t := h.all.lies t (by simp)
end
end Go.Proofs.YthafahnlfpkkbaaGreatDoor
