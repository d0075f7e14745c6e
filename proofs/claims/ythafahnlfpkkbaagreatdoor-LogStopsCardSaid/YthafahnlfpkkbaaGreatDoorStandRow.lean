/- A row among things that stand beside each other: how one is begun, and how it goes on. Conditions: none. -/
import Derived.Test.YthafahnlfpkkbaaGreatDoorPart
namespace Go.Proofs.YthafahnlfpkkbaaGreatDoor
open Go.RowKit

theorem row_went {w w' : World} {e sz n cap n' cap' : Nat} {A A' : Option Addr} {xs xs' : List Value} (hr : Row w' e sz A' n' cap' xs') (hk : Keep (InA A) w w') (hn : ∀ j, InA A' j → InA A j ∨ w.heap.size ≤ j) :
    Went w w' (rowT e sz A n cap xs) (rowT e sz A' n' cap' xs') := ⟨row_lie hr, hk, hn, hn⟩
theorem stand_nil {w0 w : World} {ts : List Tg} (h : Stand w0 w ts) (e sz : Nat) : Stand w0 w (ts ++ [rowT e sz none 0 0 []]) :=
  h.add (Below.refl _ _) (row_lie (Row.nil w e sz)) (fun j hj => by simp [rowT, InA] at hj) (fun j hj => by simp [rowT, InA] at hj)
/-- A slice that is read only, and lies apart from all that is written. -/
theorem Stand.read {w0 w : World} {ts : List Tg} (h : Stand w0 w ts) {A : Option Addr} {sz n : Nat} {xs : List Value} (hs : Sl w A sz n xs) (hn : ∀ j, InA A j → j < w0.heap.size) : Stand w0 w (ts ++ [slT A sz n xs]) :=
  h.add (Below.refl _ _) (sl_lie hs) (fun _ hj => hj.elim) (fun j hj => .inr (hn j hj.2))
/-- Some of them, in any order. -/
theorem Stand.sub {w0 w : World} {ts us : List Tg} (h : Stand w0 w ts) (f : Nat → Nat) (hf : ∀ i t, us[i]? = some t → ts[f i]? = some t) (inj : ∀ i j, i < us.length → j < us.length → i ≠ j → f i ≠ f j) : Stand w0 w us := by
  refine ⟨⟨fun t ht => ?_, fun i j s t hs ht hne => ?_⟩, fun t ht j hj => ?_, h.below⟩
  · obtain ⟨i, hi⟩ := List.mem_iff_getElem?.1 ht
    exact h.get (hf i t hi)
  · exact h.all.apart (f i) (f j) s t (hf i s hs) (hf j t ht) (inj i j (List.getElem?_eq_some_iff.1 hs).1 (List.getElem?_eq_some_iff.1 ht).1 hne)
  · obtain ⟨i, hi⟩ := List.mem_iff_getElem?.1 ht
    exact h.fresh t (List.mem_of_getElem? (hf i t hi)) j hj
theorem Stand.pick3 {w0 w : World} {ts : List Tg} {a b c : Tg} (h : Stand w0 w ts) (i j k : Nat) (hi : ts[i]? = some a) (hj : ts[j]? = some b) (hk : ts[k]? = some c) (hij : i ≠ j) (hik : i ≠ k) (hjk : j ≠ k) : Stand w0 w [a, b, c] := by
  refine h.sub (fun n => if n = 0 then i else if n = 1 then j else k) (fun n t hn => ?_) (fun n n' h1 h2 hne => ?_)
  · match n, hn with
    | 0, hn => cases hn; exact hi
    | 1, hn => cases hn; exact hj
    | 2, hn => cases hn; exact hk
    | n + 3, hn => simp at hn
  · simp only [List.length_cons, List.length_nil] at h1 h2
    have c1 : n = 0 ∨ n = 1 ∨ n = 2 := by omega
    have c2 : n' = 0 ∨ n' = 1 ∨ n' = 2 := by omega
    rcases c1 with rfl | rfl | rfl <;> rcases c2 with rfl | rfl | rfl <;> simp <;> omega
/-- The last of them put ahead. -/
theorem Stand.head {w0 w : World} {ts : List Tg} {t : Tg} (h : Stand w0 w (ts ++ [t])) : Stand w0 w (t :: ts) := by
  refine h.sub (fun i => if i = 0 then ts.length else i - 1) (fun i u hi => ?_) (fun i j h1 h2 hne => ?_)
  · cases i with
    | zero =>
      simp only [List.getElem?_cons_zero, Option.some.injEq] at hi
      subst hi
      simp
    | succ i =>
      simp only [List.getElem?_cons_succ] at hi
      rw [if_neg (by omega), Nat.add_sub_cancel, List.getElem?_append_left (List.getElem?_eq_some_iff.1 hi).1]
      exact hi
  · simp only [List.length_cons] at h1 h2
    repeat' split
    all_goals omega
/-- A variable of its own. -/
def bxT (b T : Nat) (v : Value) : Tg := blkT b (.cells #[v] T (0, 0))
theorem Stand.push {w0 w : World} {ts : List Tg} (h : Stand w0 w ts) (T : Nat) (v : Value) : Stand w0 (w.alloc (.cells #[v] T)) (bxT w.heap.size T v :: ts) :=
  Stand.head (h.add ((Below.refl _ _).alloc (Nat.le_refl _) _) (blk_lie (heap_alloc_new w (.cells #[v] T))) (fun j hj => by have : j = w.heap.size := hj; omega) (fun j hj => .inl (by have : j = w.heap.size := hj; omega)))
theorem Stand.sort5 {w0 w : World} {ts : List Tg} {a b c d k : Tg} (h : Stand w0 w (d :: c :: k :: b :: a :: ts)) : Stand w0 w (k :: a :: b :: c :: d :: ts) := by
  refine h.sub (fun i => if i = 0 then 2 else if i = 1 then 4 else if i = 2 then 3 else if i = 3 then 1 else if i = 4 then 0 else i) (fun i u hi => ?_) (fun i j h1 h2 hne => ?_)
  · match i, hi with
    | 0, hi => exact hi
    | 1, hi => exact hi
    | 2, hi => exact hi
    | 3, hi => exact hi
    | 4, hi => exact hi
    | i + 5, hi => exact hi
  · repeat' split
    all_goals omega
/-- One behind the first few is kept, these are left. -/
theorem Stand.drop4 {w0 w : World} {ts : List Tg} {a b c d k : Tg} (h : Stand w0 w (k :: a :: b :: c :: d :: ts)) : Stand w0 w (k :: ts) := by
  refine h.sub (fun i => if i = 0 then 0 else i + 4) (fun i u hi => ?_) (fun i j h1 h2 hne => ?_)
  · match i, hi with
    | 0, hi => exact hi
    | i + 1, hi => exact hi
  · repeat' split
    all_goals omega
theorem bx_set {w : World} {b T : Nat} {v : Value} (h : Lie w (bxT b T v)) (u : Value) : Went w (w.setCell ⟨b, 0, none⟩ u) (bxT b T v) (bxT b T u) :=
  blk_went h ((Keep.refl (fun j => j = b) w).setCell (.inl rfl) _) (blk_set (show w.heap[b]? = some (.cells #[v] T (0, 0)) from h.here) 0 u)
end Go.Proofs.YthafahnlfpkkbaaGreatDoor
