/- Midway in a call: a thing that goes on, and the call's own blocks beside it. -/
import Derived.Test.YtongkiccglaniaaDoorPart
namespace Go.Proofs.YtongkiccglaniaaDoor
open Go.RowKit
set_option maxRecDepth 100000

/-- From w on: the thing t0 has become t; the blocks bs are new. -/
structure Amid (w wx : World) (t0 t : Tg) (bs : List Tg) : Prop where
  all : Beside wx (t :: bs)
  went : Went w wx t0 t
  fresh : ∀ u ∈ bs, ∀ j, u.F j → w.heap.size ≤ j
section
variable {w wx w' : World} {t0 t t' : Tg} {bs : List Tg}
theorem Amid.start (h : Lie w t) : Amid w w t t [] := by
  refine ⟨⟨fun u hu => by simp at hu; subst hu; exact h, fun i j s u hs hu hne => ?_⟩, Went.refl h, fun u hu => by simp at hu⟩
  have h1 := (List.getElem?_eq_some_iff.1 hs).1
  have h2 := (List.getElem?_eq_some_iff.1 hu).1
  simp at h1 h2
  omega
theorem Amid.size (h : Amid w wx t0 t bs) : w.heap.size ≤ wx.heap.size := h.went.keep.size
theorem Amid.new (h : Amid w wx t0 t bs) (hb : Below wx.heap.size wx w') : Amid w w' t0 t bs := ⟨h.all.new hb, h.went.then hb, h.fresh⟩
theorem Amid.drew (h : Amid w wx t0 t bs) : Amid w wx.drew t0 t bs := h.new (Below.refl _ _).drew
theorem Amid.here (h : Amid w wx t0 t bs) : t.P wx := (h.all.get (i := 0) rfl).here
theorem Amid.lie (h : Amid w wx t0 t bs) : Lie wx t := h.all.get (i := 0) rfl
/-- A block more. -/
theorem Amid.box (h : Amid w wx t0 t bs) (cs : Array Value) (T : Nat) : Amid w (wx.alloc (.cells cs T)) t0 t (bs ++ [blkT wx.heap.size (.cells cs T (0, 0))]) := by
  have hb : Below wx.heap.size wx (wx.alloc (.cells cs T)) := (Below.refl _ _).alloc (Nat.le_refl _) _
  have hn := h.new hb
  have hs := h.size
  have hlt : ∀ u ∈ t :: bs, ∀ j, u.F j → j < wx.heap.size := fun u hu j hj => (h.all.lies u hu).lt j hj
  refine ⟨?_, hn.went, fun u hu j hj => ?_⟩
  · have := hn.all.add (blk_lie (heap_alloc_new wx _)) (fun u hu j h1 h2 => by
      have e : j = wx.heap.size := h2
      have := hlt u hu j ((h.all.lies u hu).sub j h1)
      omega) (fun u hu j h1 h2 => by
      have e : j = wx.heap.size := h1
      have := hlt u hu j h2
      omega)
    exact this
  · rcases List.mem_append.1 hu with hu | hu
    · exact h.fresh u hu j hj
    · simp at hu; subst hu
      have e : j = wx.heap.size := hj
      omega
/-- The thing goes on. -/
theorem Amid.go (h : Amid w wx t0 t bs) (hg : Went wx w' t t') : Amid w w' t0 t' bs := ⟨h.all.go (i := 0) rfl hg, h.went.trans hg, h.fresh⟩
/-- A block of the call's own is written. -/
theorem Amid.write (h : Amid w wx t0 t bs) (i : Nat) {b : Nat} {o o' : Obj} (hi : bs[i]? = some (blkT b o)) (hk : Keep (fun j => j = b) wx w') (hx : w'.heap[b]? = some o') : Amid w w' t0 t (bs.set i (blkT b o')) := by
  have hm := List.mem_of_getElem? hi
  have hw : Went wx w' (blkT b o) (blkT b o') := blk_went (h.all.get (i := i + 1) (by simpa using hi)) hk hx
  refine ⟨h.all.go (i := i + 1) (by simpa using hi) hw, h.went.side hk (fun j hj => ?_) (fun j hj hF => ?_), fun u hu j hj => ?_⟩
  · subst hj; exact h.fresh _ hm j rfl
  · subst hj
    exact h.all.apart (i + 1) 0 _ _ (by simpa using hi) rfl (by omega) j rfl hF
  · rcases List.mem_or_eq_of_mem_set hu with hu | rfl
    · exact h.fresh u hu j hj
    · have e : j = b := hj
      subst e; exact h.fresh _ hm j rfl
theorem Amid.get (h : Amid w wx t0 t bs) (i : Nat) {b : Nat} {o : Obj} (hi : bs[i]? = some (blkT b o)) : wx.heap[b]? = some o := (h.all.get (i := i + 1) (t := blkT b o) (by simpa using hi)).here
end
end Go.Proofs.YtongkiccglaniaaDoor
