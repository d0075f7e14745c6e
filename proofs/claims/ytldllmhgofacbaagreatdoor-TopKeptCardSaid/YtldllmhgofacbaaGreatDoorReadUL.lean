/- Several parts: each begins with what it says. -/
import Derived.Test.YtldllmhgofacbaaGreatDoorDeskUL
import Derived.Test.YtldllmhgofacbaaGreatDoorBuildUL
import Derived.BigQuiet
import Derived.Test.YtldllmhgofacbaaGreatDoorRangeUL
/- Package code: the contract of Read, for every text. Conditions: 'Desk', the table of forms with its names, which the row lists. -/
namespace Go.Proofs.YtldllmhgofacbaaGreatDoor
open Go.RowKit
set_option maxRecDepth 100000

/-- Which form's name a word is. -/
def FormGot (w0 : List UInt8) (w : World) (e : Ending) (w' : World) : Prop :=
  ∃ r : Int, e = .returned (.int .i64 r) ∧ Below w.heap.size w w' ∧ ((∃ K : Nat, 1 ≤ K ∧ K ≤ 11 ∧ nameOf K = w0 ∧ r = K - 1) ∨ (r = -1 ∧ ∀ K : Nat, 1 ≤ K → K ≤ 11 → nameOf K ≠ w0))
/-- What Read hands back. -/
def ReadGot (s : ByteArray) (w : World) (e : Ending) (w' : World) : Prop :=
  Below w.heap.size w w' ∧ ((∃ o : Op, WfOp o ∧ opLine o = s.data.toList ∧ e = .returned (.tuple #[.agg #[.int .i64 o.what, .int .i64 o.a, .int .i64 o.b], .bool true])) ∨
    ((∀ o, WfOp o → opLine o ≠ s.data.toList) ∧ e = .returned (.tuple #[.agg #[.int .i64 0, .int .i64 0, .int .i64 0], .bool false])))
/-- An op whose first j numbers are filled in. -/
def fillXY (K : Nat) (ns : List Nat) (j : Nat) : Nat × Nat :=
  if formA K then (if 0 < j then ns.getD 0 0 else 0, if 1 < j then ns.getD 1 0 else 0) else if formB K then (0, if 0 < j then ns.getD 0 0 else 0) else (0, 0)
theorem fill_end {K : Nat} {ns : List Nat} : opOf K ns = ⟨K, ((fillXY K ns (manyOf K)).1 : Nat), ((fillXY K ns (manyOf K)).2 : Nat)⟩ := by
  unfold opOf fillXY manyOf
  cases ha : formA K with
  | true => simp [formB_of ha]
  | false => cases hb : formB K <;> simp
theorem ptrs_many (K k : Nat) : (ptrsOf K k).length = manyOf K := by
  unfold ptrsOf manyOf
  cases formA K <;> cases formB K <;> rfl
/-- The j-th number goes where the j-th pointer leads. -/
theorem fill_step {K k j : Nat} {ns : List Nat} (hj : j < manyOf K) : (∃ v, (ptrsOf K k)[j]? = some v ∧ v = .pointer (some ⟨k, 1, none⟩) ∧ fillXY K ns (j + 1) = (ns.getD j 0, (fillXY K ns j).2)) ∨ (∃ v, (ptrsOf K k)[j]? = some v ∧ v = .pointer (some ⟨k, 2, none⟩) ∧ fillXY K ns (j + 1) = ((fillXY K ns j).1, ns.getD j 0)) := by
  unfold manyOf at hj
  unfold ptrsOf fillXY
  cases ha : formA K with
  | true =>
    have hb := formB_of ha
    rw [ha, hb] at hj
    have : j = 0 ∨ j = 1 := by simp at hj; omega
    rcases this with rfl | rfl
    · exact .inl ⟨_, by simp [hb], rfl, by simp⟩
    · exact .inr ⟨_, by simp [hb], rfl, by simp⟩
  | false =>
    cases hb : formB K with
    | true =>
      rw [ha, hb] at hj
      have : j = 0 := by simp at hj; omega
      subst this
      exact .inr ⟨_, by simp, rfl, by simp⟩
    | false => rw [ha, hb] at hj; simp at hj
end Go.Proofs.YtldllmhgofacbaaGreatDoor

/- Package code: the contract of Parse, for every text. Conditions: 'Desk', the table of forms with its names, which the row lists; no text is longer than 2^30 bytes. -/
namespace Go.Proofs.YtldllmhgofacbaaGreatDoor
open Go.RowKit Go.Shelf
set_option maxRecDepth 100000
attribute [local go_sem] Oper.semAt_some

/-- What Parse hands back. -/
def ParseGot (t : ByteArray) (w : World) (e : Ending) (w' : World) : Prop :=
  Below w.heap.size w w' ∧
  ((∃ (l : List Op) (A : Option Addr) (n c : Nat), (∀ o ∈ l, WfOp o) ∧ codeText l = t.data.toList ∧ (codeChk l).2 = 0 ∧ l.length = n ∧ e = .returned (.tuple #[.slice A n c, .nilIface]) ∧ Row w' 42 3 A n c (l.flatMap Op.cells) ∧ ∀ i, InA A i → w.heap.size ≤ i) ∨
   (∃ l : List Op, (∀ o ∈ l, WfOp o) ∧ codeText l = t.data.toList ∧ (codeChk l).2 ≠ 0 ∧ e = .returned (.tuple #[.slice none 0 0, errV (codeChk l).2])) ∨
   ((∀ l : List Op, (∀ o ∈ l, WfOp o) → codeText l ≠ t.data.toList) ∧ e = .returned (.tuple #[.slice none 0 0, errV 2])))

/-- Midway: so many lines are read. -/
structure ParseAt (w : World) (pre : List ByteArray) (W : World) : Prop where
  res : Boxed W w.heap.size 43 (.slice none 0 0)
  err : Boxed W (w.heap.size + 1) 30 .nilIface
  out : ∃ (l : List Op) (A : Option Addr) (n c : Nat), (∀ o ∈ l, WfOp o) ∧ pre.map (fun s => s.data.toList) = l.map opText ∧ l.length = n ∧ Boxed W (w.heap.size + 1 + 1) 43 (.slice A n c) ∧ Row W 42 3 A n c (l.flatMap Op.cells) ∧ ∀ i, InA A i → w.heap.size + 4 ≤ i
  big : w.heap.size + 4 ≤ W.heap.size
  below : Below w.heap.size w W
theorem ParseAt.abide (w : World) : Abide (w.heap.size + 4) (w.heap.size + 1 + 1 + 1) (ParseAt w) := by
  refine ⟨fun s W W' row h hg hr => ?_, fun s W u h => ?_⟩
  · have hr2 : ∀ r, row = some r → ∃ o : Obj, W.heap[r]? = some o ∧ o.isCells = false := fun r e => (hr r e).2
    obtain ⟨l, A, n, c, h1, h2, h3, h4, h5, h6⟩ := h.out
    exact ⟨boxed_turned h.res hg hr2, boxed_turned h.err hg hr2, ⟨l, A, n, c, h1, h2, h3, boxed_turned h4 hg hr2, h5.turned hg hr2, h6⟩, Nat.le_trans h.big hg.size, h.below.grown hg h.below.size (fun k e => by have := (hr k e).1; omega)⟩
  · obtain ⟨l, A, n, c, h1, h2, h3, h4, h5, h6⟩ := h.out
    exact ⟨h.res.other (by omega) _, h.err.other (by omega) _, ⟨l, A, n, c, h1, h2, h3, h4.other (by omega) _, h5.setCell (fun hi => by have := h6 _ hi; simp at this; omega) _, h6⟩, by rw [sz_set]; exact h.big, h.below.setCell (p := ⟨w.heap.size + 1 + 1 + 1, 0, none⟩) (by simp; omega) _⟩
/-- It has stopped: a line is no op's. -/
structure ParseStop (t : ByteArray) (w : World) (c : Code) (W : World) : Prop where
  ret : c = .ret
  no : ∀ l : List Op, (∀ o ∈ l, WfOp o) → codeText l ≠ t.data.toList
  res : Boxed W w.heap.size 43 (.slice none 0 0)
  err : Boxed W (w.heap.size + 1) 30 (errV 2)
  below : Below w.heap.size w W
theorem ParseStop.abide (t : ByteArray) (w : World) (c : Code) : Abide (w.heap.size + 4) (w.heap.size + 1 + 1 + 1) (fun (_ : List ByteArray) W => ParseStop t w c W) := by
  refine ⟨fun s W W' row h hg hr => ?_, fun s W u h => ?_⟩
  · have hr2 : ∀ r, row = some r → ∃ o : Obj, W.heap[r]? = some o ∧ o.isCells = false := fun r e => (hr r e).2
    exact ⟨h.ret, h.no, boxed_turned h.res hg hr2, boxed_turned h.err hg hr2, h.below.grown hg h.below.size (fun k e => by have := (hr k e).1; omega)⟩
  · exact ⟨h.ret, h.no, h.res.other (by omega) _, h.err.other (by omega) _, h.below.setCell (p := ⟨w.heap.size + 1 + 1 + 1, 0, none⟩) (by simp; omega) _⟩

theorem Tryz.infoOpR : (Tryz.prog.info? 42).map (fun i => (i.zero, i.size, i.bytes)) = some (some (.agg #[.int .i64 0, .int .i64 0, .int .i64 0]), 3, 24) := by kernel_rfl
theorem opText_10 (o : Op) : (10 : UInt8) ∈ opText o := by unfold opText; simp

theorem parse_start {w : World} {t : ByteArray} : ParseAt w [] ((((w.alloc (.cells #[.slice none 0 0] 43)).alloc (.cells #[.nilIface] 30)).alloc (.cells #[.slice none 0 0] 43)).alloc (.cells #[.string t] 9)) := by
  have b1 := ((Boxed.new w 43 (.slice none 0 0)).alloc (.cells #[.nilIface] 30)).alloc (.cells #[.slice none 0 0] 43) |>.alloc (.cells #[.string t] 9)
  have b2 := (Boxed.new (w.alloc (.cells #[.slice none 0 0] 43)) 30 .nilIface).alloc (.cells #[.slice none 0 0] 43) |>.alloc (.cells #[.string t] 9)
  have b3 := (Boxed.new ((w.alloc (.cells #[.slice none 0 0] 43)).alloc (.cells #[.nilIface] 30)) 43 (.slice none 0 0)).alloc (.cells #[.string t] 9)
  simp only [sz_alloc] at b2 b3
  exact ⟨b1, b2, ⟨[], none, 0, 0, (fun o ho => by cases ho), rfl, rfl, b3, Row.nil _ _ _, (fun i hi => by simp [InA] at hi)⟩, by simp, ((((Below.refl _ w).alloc (Nat.le_refl _) _).alloc (by simp) _).alloc (by simp; omega) _).alloc (by simp; omega) _⟩

theorem one_op3 (w : World) (o : Obj) {x y z : Value} {T : Nat} : Sl ((w.alloc o).alloc (.cells #[x, y, z] T)) (some ⟨w.heap.size + 1, 0, none⟩) 3 1 [x, y, z] := by
  have h := heap_alloc_new (w.alloc o) (.cells #[x, y, z] T)
  rw [sz_alloc] at h
  refine ⟨rfl, fun _ => ⟨w.heap.size + 1, 0, rfl, blk_lt h, fun j u hu => ?_⟩⟩
  rw [Nat.zero_add, blk_cell h]
  simpa using hu
end Go.Proofs.YtldllmhgofacbaaGreatDoor
