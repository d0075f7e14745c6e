/- Package code: the contract of Parse, for every text. Conditions: 'Desk', the table of forms with its names, which the row lists; no text is longer than 2^30 bytes. -/
import Derived.Test.YtldllmhgofacbaaDoorRangeU
import Derived.Test.YtldllmhgofacbaaDoorReadW
namespace Go.Proofs.YtldllmhgofacbaaDoor
open Go.RowKit Go.Shelf
set_option maxRecDepth 100000
attribute [local go_sem] Oper.semAt_some

/-- What Parse hands back. -/
def ParseGot (t : ByteArray) (w : World) (e : Ending) (w' : World) : Prop :=
  Below w.heap.size w w' ∧
  ((∃ (l : List Op) (A : Option Addr) (n c : Nat), (∀ o ∈ l, WfOp o) ∧ codeText l = t.data.toList ∧ (codeChk l).2 = 0 ∧ l.length = n ∧ e = .returned (.tuple #[.slice A n c, .nilIface]) ∧ Row w' 47 3 A n c (l.flatMap Op.cells) ∧ ∀ i, InA A i → w.heap.size ≤ i) ∨
   (∃ l : List Op, (∀ o ∈ l, WfOp o) ∧ codeText l = t.data.toList ∧ (codeChk l).2 ≠ 0 ∧ e = .returned (.tuple #[.slice none 0 0, errV (codeChk l).2])) ∨
   ((∀ l : List Op, (∀ o ∈ l, WfOp o) → codeText l ≠ t.data.toList) ∧ e = .returned (.tuple #[.slice none 0 0, errV 2])))

/-- Midway: so many lines are read. -/
structure ParseAt (w : World) (pre : List ByteArray) (W : World) : Prop where
  res : Boxed W w.heap.size 50 (.slice none 0 0)
  err : Boxed W (w.heap.size + 1) 28 .nilIface
  out : ∃ (l : List Op) (A : Option Addr) (n c : Nat), (∀ o ∈ l, WfOp o) ∧ pre.map (fun s => s.data.toList) = l.map opText ∧ l.length = n ∧ Boxed W (w.heap.size + 1 + 1) 50 (.slice A n c) ∧ Row W 47 3 A n c (l.flatMap Op.cells) ∧ ∀ i, InA A i → w.heap.size + 4 ≤ i
  big : w.heap.size + 4 ≤ W.heap.size
  below : Below w.heap.size w W
theorem ParseAt.abide (w : World) : Abide (w.heap.size + 4) (w.heap.size + 1 + 1 + 1) (ParseAt w) := by
  refine ⟨fun s W W' row h hg hr => ?_, fun s W u h => ?_⟩
  · have hr2 : ∀ r, row = some r → ∃ o : Obj, W.heap[r]? = some o ∧ o.isCells = false := fun r e => (hr r e).2
    obtain ⟨l, A, n, c, h1, h2, h3, h4, h5, h6⟩ := h.out
    exact ⟨boxed_turned h.res hg hr2, boxed_turned h.err hg hr2, ⟨l, A, n, c, h1, h2, h3, boxed_turned h4 hg hr2, h5.turned hg hr2, h6⟩, Nat.le_trans h.big hg.size, h.below.grown hg h.below.size (fun k e => by have := (hr k e).1; omega)⟩
  · obtain ⟨l, A, n, c, h1, h2, h3, h4, h5, h6⟩ := h.out
    exact ⟨h.res.other (by omega) _, h.err.other (by omega) _, ⟨l, A, n, c, h1, h2, h3, h4.other (by omega) _, h5.setCell (fun hi => by have := h6 _ hi; simp at this; omega) _, h6⟩, by rw [sz_set]; exact h.big, h.below.setCell (p := ⟨w.heap.size + 1 + 1 + 1, 0, none⟩) (by simp; omega) _⟩
/-- It has stopped: a line is no op's. -/
structure ParseStop (t : ByteArray) (w : World) (c : Code) (W : World) : Prop where
  ret : c = .ret
  no : ∀ l : List Op, (∀ o ∈ l, WfOp o) → codeText l ≠ t.data.toList
  res : Boxed W w.heap.size 50 (.slice none 0 0)
  err : Boxed W (w.heap.size + 1) 28 (errV 2)
  below : Below w.heap.size w W
theorem ParseStop.abide (t : ByteArray) (w : World) (c : Code) : Abide (w.heap.size + 4) (w.heap.size + 1 + 1 + 1) (fun (_ : List ByteArray) W => ParseStop t w c W) := by
  refine ⟨fun s W W' row h hg hr => ?_, fun s W u h => ?_⟩
  · have hr2 : ∀ r, row = some r → ∃ o : Obj, W.heap[r]? = some o ∧ o.isCells = false := fun r e => (hr r e).2
    exact ⟨h.ret, h.no, boxed_turned h.res hg hr2, boxed_turned h.err hg hr2, h.below.grown hg h.below.size (fun k e => by have := (hr k e).1; omega)⟩
  · exact ⟨h.ret, h.no, h.res.other (by omega) _, h.err.other (by omega) _, h.below.setCell (p := ⟨w.heap.size + 1 + 1 + 1, 0, none⟩) (by simp; omega) _⟩

theorem Tryd.infoOpR : (Tryd.prog.info? 47).map (fun i => (i.zero, i.size, i.bytes)) = some (some (.agg #[.int .i64 0, .int .i64 0, .int .i64 0]), 3, 24) := by kernel_rfl
theorem opText_10 (o : Op) : (10 : UInt8) ∈ opText o := by unfold opText; simp

theorem parse_start {w : World} {t : ByteArray} : ParseAt w [] ((((w.alloc (.cells #[.slice none 0 0] 50)).alloc (.cells #[.nilIface] 28)).alloc (.cells #[.slice none 0 0] 50)).alloc (.cells #[.string t] 9)) := by
  have b1 := ((Boxed.new w 50 (.slice none 0 0)).alloc (.cells #[.nilIface] 28)).alloc (.cells #[.slice none 0 0] 50) |>.alloc (.cells #[.string t] 9)
  have b2 := (Boxed.new (w.alloc (.cells #[.slice none 0 0] 50)) 28 .nilIface).alloc (.cells #[.slice none 0 0] 50) |>.alloc (.cells #[.string t] 9)
  have b3 := (Boxed.new ((w.alloc (.cells #[.slice none 0 0] 50)).alloc (.cells #[.nilIface] 28)) 50 (.slice none 0 0)).alloc (.cells #[.string t] 9)
  simp only [sz_alloc] at b2 b3
  exact ⟨b1, b2, ⟨[], none, 0, 0, (fun o ho => by cases ho), rfl, rfl, b3, Row.nil _ _ _, (fun i hi => by simp [InA] at hi)⟩, by simp, ((((Below.refl _ w).alloc (Nat.le_refl _) _).alloc (by simp) _).alloc (by simp; omega) _).alloc (by simp; omega) _⟩

theorem one_op3 (w : World) (o : Obj) {x y z : Value} {T : Nat} : Sl ((w.alloc o).alloc (.cells #[x, y, z] T)) (some ⟨w.heap.size + 1, 0, none⟩) 3 1 [x, y, z] := by
  have h := heap_alloc_new (w.alloc o) (.cells #[x, y, z] T)
  rw [sz_alloc] at h
  refine ⟨rfl, fun _ => ⟨w.heap.size + 1, 0, rfl, blk_lt h, fun j u hu => ?_⟩⟩
  rw [Nat.zero_add, blk_cell h]
  simpa using hu
end Go.Proofs.YtldllmhgofacbaaDoor
