/- Several parts: each begins with what it says. -/
import Derived.Test.YthdmgighblhmhaaGreatDoorPart
import Derived.Test.YthdmgighblhmhaaGreatDoorRangeU
/- A row among things that stand beside each other: how one is begun, and how it goes on. Conditions: none. -/
namespace Go.Proofs.YthdmgighblhmhaaGreatDoor
open Go.RowKit

theorem row_went {w w' : World} {e sz n cap n' cap' : Nat} {A A' : Option Addr} {xs xs' : List Value} (hr : Row w' e sz A' n' cap' xs') (hk : Keep (InA A) w w') (hn : ∀ j, InA A' j → InA A j ∨ w.heap.size ≤ j) :
    Went w w' (rowT e sz A n cap xs) (rowT e sz A' n' cap' xs') := ⟨row_lie hr, hk, hn, hn⟩
theorem stand_nil {w0 w : World} {ts : List Tg} (h : Stand w0 w ts) (e sz : Nat) : Stand w0 w (ts ++ [rowT e sz none 0 0 []]) :=
  h.add (Below.refl _ _) (row_lie (Row.nil w e sz)) (fun j hj => by simp [rowT, InA] at hj) (fun j hj => by simp [rowT, InA] at hj)
/-- A slice that is read only, and lies apart from all that is written. -/
theorem Stand.read {w0 w : World} {ts : List Tg} (h : Stand w0 w ts) {A : Option Addr} {sz n : Nat} {xs : List Value} (hs : Sl w A sz n xs) (hn : ∀ j, InA A j → j < w0.heap.size) : Stand w0 w (ts ++ [slT A sz n xs]) :=
  h.add (Below.refl _ _) (sl_lie hs) (fun _ hj => hj.elim) (fun j hj => .inr (hn j hj.2))
/-- Some of them, in any order. -/
theorem Stand.sub {w0 w : World} {ts us : List Tg} (h : Stand w0 w ts) (f : Nat → Nat) (hf : ∀ i t, us[i]? = some t → ts[f i]? = some t) (inj : ∀ i j, i < us.length → j < us.length → i ≠ j → f i ≠ f j) : Stand w0 w us := by
  refine ⟨⟨fun t ht => ?_, fun i j s t hs ht hne => ?_⟩, fun t ht j hj => ?_, h.below⟩
  · obtain ⟨i, hi⟩ := List.mem_iff_getElem?.1 ht
    exact h.get (hf i t hi)
  · exact h.all.apart (f i) (f j) s t (hf i s hs) (hf j t ht) (inj i j (List.getElem?_eq_some_iff.1 hs).1 (List.getElem?_eq_some_iff.1 ht).1 hne)
  · obtain ⟨i, hi⟩ := List.mem_iff_getElem?.1 ht
    exact h.fresh t (List.mem_of_getElem? (hf i t hi)) j hj
theorem Stand.pick3 {w0 w : World} {ts : List Tg} {a b c : Tg} (h : Stand w0 w ts) (i j k : Nat) (hi : ts[i]? = some a) (hj : ts[j]? = some b) (hk : ts[k]? = some c) (hij : i ≠ j) (hik : i ≠ k) (hjk : j ≠ k) : Stand w0 w [a, b, c] := by
  refine h.sub (fun n => if n = 0 then i else if n = 1 then j else k) (fun n t hn => ?_) (fun n n' h1 h2 hne => ?_)
  · match n, hn with
    | 0, hn => cases hn; exact hi
    | 1, hn => cases hn; exact hj
    | 2, hn => cases hn; exact hk
    | n + 3, hn => simp at hn
  · simp only [List.length_cons, List.length_nil] at h1 h2
    have c1 : n = 0 ∨ n = 1 ∨ n = 2 := by omega
    have c2 : n' = 0 ∨ n' = 1 ∨ n' = 2 := by omega
    rcases c1 with rfl | rfl | rfl <;> rcases c2 with rfl | rfl | rfl <;> simp <;> omega
/-- The last of them put ahead. -/
theorem Stand.head {w0 w : World} {ts : List Tg} {t : Tg} (h : Stand w0 w (ts ++ [t])) : Stand w0 w (t :: ts) := by
  refine h.sub (fun i => if i = 0 then ts.length else i - 1) (fun i u hi => ?_) (fun i j h1 h2 hne => ?_)
  · cases i with
    | zero =>
      simp only [List.getElem?_cons_zero, Option.some.injEq] at hi
      subst hi
      simp
    | succ i =>
      simp only [List.getElem?_cons_succ] at hi
      rw [if_neg (by omega), Nat.add_sub_cancel, List.getElem?_append_left (List.getElem?_eq_some_iff.1 hi).1]
      exact hi
  · simp only [List.length_cons] at h1 h2
    repeat' split
    all_goals omega
/-- A variable of its own. -/
def bxT (b T : Nat) (v : Value) : Tg := blkT b (.cells #[v] T (0, 0))
theorem Stand.push {w0 w : World} {ts : List Tg} (h : Stand w0 w ts) (T : Nat) (v : Value) : Stand w0 (w.alloc (.cells #[v] T)) (bxT w.heap.size T v :: ts) :=
  Stand.head (h.add ((Below.refl _ _).alloc (Nat.le_refl _) _) (blk_lie (heap_alloc_new w (.cells #[v] T))) (fun j hj => by have : j = w.heap.size := hj; omega) (fun j hj => .inl (by have : j = w.heap.size := hj; omega)))
theorem Stand.sort5 {w0 w : World} {ts : List Tg} {a b c d k : Tg} (h : Stand w0 w (d :: c :: k :: b :: a :: ts)) : Stand w0 w (k :: a :: b :: c :: d :: ts) := by
  refine h.sub (fun i => if i = 0 then 2 else if i = 1 then 4 else if i = 2 then 3 else if i = 3 then 1 else if i = 4 then 0 else i) (fun i u hi => ?_) (fun i j h1 h2 hne => ?_)
  · match i, hi with
    | 0, hi => exact hi
    | 1, hi => exact hi
    | 2, hi => exact hi
    | 3, hi => exact hi
    | 4, hi => exact hi
    | i + 5, hi => exact hi
  · repeat' split
    all_goals omega
/-- One behind the first few is kept, these are left. -/
theorem Stand.drop4 {w0 w : World} {ts : List Tg} {a b c d k : Tg} (h : Stand w0 w (k :: a :: b :: c :: d :: ts)) : Stand w0 w (k :: ts) := by
  refine h.sub (fun i => if i = 0 then 0 else i + 4) (fun i u hi => ?_) (fun i j h1 h2 hne => ?_)
  · match i, hi with
    | 0, hi => exact hi
    | i + 1, hi => exact hi
  · repeat' split
    all_goals omega
theorem bx_set {w : World} {b T : Nat} {v : Value} (h : Lie w (bxT b T v)) (u : Value) : Went w (w.setCell ⟨b, 0, none⟩ u) (bxT b T v) (bxT b T u) :=
  blk_went h ((Keep.refl (fun j => j = b) w).setCell (.inl rfl) _) (blk_set (show w.heap[b]? = some (.cells #[v] T (0, 0)) from h.here) 0 u)
end Go.Proofs.YthdmgighblhmhaaGreatDoor

/- Things of which all blocks are cells: they stand on while an iterator's records turn. Conditions: none. -/
namespace Go.Proofs.YthdmgighblhmhaaGreatDoor
open Go.RowKit
set_option maxRecDepth 100000

/-- All its blocks are cells. -/
def Celled (t : Tg) : Prop := ∀ w : World, Lie w t → ∀ j, t.F j → ∃ o : Obj, w.heap[j]? = some o ∧ o.isCells = true
theorem cell_isCells {w : World} {b o : Nat} {v : Value} (h : w.cell? ⟨b, o, none⟩ = some v) : ∃ q : Obj, w.heap[b]? = some q ∧ q.isCells = true := by
  unfold World.cell? at h
  cases hb : w.heap[b]? with
  | none => rw [hb] at h; simp at h
  | some q =>
    refine ⟨q, rfl, ?_⟩
    rw [hb] at h
    cases q <;> first | rfl | simp at h
theorem sl_cells {w : World} {A : Option Addr} {sz n : Nat} {xs : List Value} (h : Sl w A sz n xs) (hn : 0 < n) (hsz : 0 < sz) {j : Nat} (hj : InA A j) : ∃ q : Obj, w.heap[j]? = some q ∧ q.isCells = true := by
  obtain ⟨b, off, rfl, hb, hx⟩ := h.2 hn
  have hjb : j = b := by simp [InA] at hj; omega
  subst hjb
  have hlen : 0 < xs.length := by
    rw [h.1]; exact Nat.mul_pos hn hsz
  exact cell_isCells (hx 0 _ (List.getElem?_eq_getElem hlen))
theorem plan_cells {w : World} {m : PM} (h : PlanAt w m) {j : Nat} (hj : planF m j) : ∃ q : Obj, w.heap[j]? = some q ∧ q.isCells = true := by
  rcases hj with ⟨h0, hj⟩ | ⟨r, hr, h0, hj⟩ | ⟨h0, hj⟩ | ⟨h0, hj⟩
  · exact sl_cells h.rows h0 (by decide) hj
  · exact sl_cells (h.codes r hr).1 h0 (by decide) hj
  · exact sl_cells h.spans h0 (by decide) hj
  · exact sl_cells h.wires h0 (by decide) hj
theorem kat_cells {TK TL TP : Nat} {w : World} {kb : Nat} {M : KM} {k : Kst} (h : KAt TK TL TP w kb M k) {j : Nat} (hj : TF kb M j) : ∃ q : Obj, w.heap[j]? = some q ∧ q.isCells = true := by
  rcases hj with (rfl | hj | ⟨a, ha, hj⟩) | hj | hj
  · exact ⟨_, h.blk, rfl⟩
  · exact h.rooms.cellsAt hj
  · obtain ⟨i, hi⟩ := List.mem_iff_getElem?.1 ha
    have hil := (List.getElem?_eq_some_iff.1 hi).1
    obtain ⟨cap, h1, h2⟩ := h.lines i _ a (List.getElem?_eq_getElem (by rw [← h.many]; exact hil)) hi
    rcases hj with rfl | hj
    · exact ⟨_, h1, rfl⟩
    · exact h2.cellsAt hj
  · exact h.ptrs.cellsAt hj
  · exact plan_cells h.plan hj
theorem celled_k (TK TL TP kb : Nat) (p : Pl) (M : KM) (k : Kst) : Celled (kT TK TL TP kb p M k) := fun _ h _ hj => kat_cells h.here.1 hj
theorem celled_plan (m : PM) : Celled (planT m) := fun _ h _ hj => plan_cells h.here hj
theorem celled_blk (b : Nat) {o : Obj} (ho : o.isCells = true) : Celled (blkT b o) := fun _ h j hj => by
  have e : j = b := hj
  subst e
  exact ⟨o, h.here, ho⟩
theorem celled_con (b : Nat) {o : Obj} (ho : o.isCells = true) : Celled (conT b o) := fun _ h j hj => by
  have e : j = b := hj
  subst e
  exact ⟨o, h.here, ho⟩

section
variable {w0 w w' : World} {ts : List Tg} {row : Option Nat}
/-- They stand on while a block that is no cells turns. -/
theorem Stand.turned (h : Stand w0 w ts) (hc : ∀ t ∈ ts, Celled t) (hg : w.grownBy w' row) (hr : ∀ r, row = some r → w0.heap.size ≤ r ∧ ∃ o : Obj, w.heap[r]? = some o ∧ o.isCells = false) : Stand w0 w' ts := by
  have hr2 : ∀ r, row = some r → ∃ o : Obj, w.heap[r]? = some o ∧ o.isCells = false := fun r e => (hr r e).2
  refine ⟨⟨fun t ht => (h.all.lies t ht).on hg.size fun j hl hF => ?_, h.all.apart⟩, h.fresh, h.below.grown hg h.below.size (fun k e => (hr k e).1)⟩
  obtain ⟨o, ho, hco⟩ := hc t ht w (h.all.lies t ht) j hF
  exact grownBy_keeps_cells hg hr2 ho hco
/-- What is no cells stays as it is while they go on. -/
def stillT (v : World) : Tg := ⟨fun j => ∃ o : Obj, v.heap[j]? = some o ∧ o.isCells = false, fun _ => False, fun w => v.heap.size ≤ w.heap.size ∧ ∀ (j : Nat) (o : Obj), v.heap[j]? = some o → o.isCells = false → w.heap[j]? = some o⟩
theorem still_lie (v : World) : Lie v (stillT v) :=
  ⟨⟨Nat.le_refl _, fun _ _ h _ => h⟩, fun _ ⟨_, h, _⟩ => blk_lt h, fun _ h => h.elim, fun _ hs hk => ⟨hs, fun j o h ho => (hk j (blk_lt h) ⟨o, h, ho⟩).trans h⟩⟩
theorem Stand.still (h : Stand w0 w ts) (hc : ∀ t ∈ ts, Celled t) : Stand w0 w (ts ++ [stillT w]) := by
  refine ⟨h.all.add (still_lie w) (fun u hu j h1 h2 => ?_) (fun u _ j h1 => h1.elim), fun u hu j h1 => ?_, h.below⟩
  · obtain ⟨o, ho, hco⟩ := hc u hu w (h.all.lies u hu) j ((h.all.lies u hu).sub j h1)
    obtain ⟨o', ho', hn⟩ := h2
    rw [ho] at ho'
    injection ho' with e
    rw [← e, hco] at hn
    cases hn
  · rcases List.mem_append.1 hu with hu | hu
    · exact h.fresh u hu j h1
    · simp at hu; subst hu; exact h1.elim
theorem still_keeps {B : Nat} {v : World} (h : (stillT v).P w) : KeepsFrom B v w := ⟨h.1, fun k o _ hk hn => h.2 k o hk hn⟩
/-- The first of two lists, one behind the other, with one of the second's. -/
theorem Stand.mem_last {us : List Tg} {t : Tg} (h : Stand w0 w (us ++ [t])) : Lie w t := h.all.lies t (by simp)
end
end Go.Proofs.YthdmgighblhmhaaGreatDoor
