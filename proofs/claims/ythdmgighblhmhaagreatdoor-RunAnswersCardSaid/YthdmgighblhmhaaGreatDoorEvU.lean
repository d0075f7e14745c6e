/- Several parts: each begins with what it says. -/
import Derived.Test.YthdmgighblhmhaaGreatDoorRunU
import Derived.IntWalk
import Derived.Test.YthdmgighblhmhaaGreatDoorLineU
import Derived.Test.YthdmgighblhmhaaGreatDoorOpen2
import Derived.Lib.SliceRun
import Derived.Deep.MidRow
import Derived.Test.YthdmgighblhmhaaGreatDoorRangeU
import Derived.Test.YthdmgighblhmhaaGreatDoorDeskU
import Derived.BigQuiet
import Derived.Test.YthdmgighblhmhaaGreatDoorBuildU
import Derived.Deep.DeepCutAuto
import Derived.Deep.RegionHeld3
import Derived.Test.YthdmgighblhmhaaGreatDoorShelf
/- Package trace: the contract of Run, for any plan and any number of ticks. -/
namespace Go.Proofs.YthdmgighblhmhaaGreatDoor
open Go.RowKit
set_option maxRecDepth 100000

theorem Tryz.infoEvent : (Tryz.prog.info? 76).map (fun i => (i.zero, i.size, i.bytes)) = some (some (.agg #[.int .i64 0, .int .i64 0, .int .i64 0, .int .i64 0]), 4, 32) := by kernel_rfl
def evAt (p : Pl) (t : Nat) : Ev := (tick p (runK p t)).1
/-- What is done in so many ticks. -/
def evsTo (p : Pl) (n : Nat) : List Ev := (List.range n).map (evAt p)
theorem evsTo_succ (p : Pl) (n : Nat) : evsTo p (n + 1) = evsTo p n ++ [evAt p n] := by simp [evsTo, List.range_succ]
theorem evsTo_len (p : Pl) (n : Nat) : (evsTo p n).length = n := by simp [evsTo]
def runE (p : Pl) (n : Int) : Int := if planChk p ≠ 0 then planChk p else if 0 ≤ n ∧ n ≤ 2000 then 0 else 1
/-- What Run answers. -/
def TraceV (w : World) (p : Pl) (n : Int) (e : Ending) (w' : World) : Prop :=
  (runE p n ≠ 0 ∧ e = .returned (.tuple #[.slice none 0 0, errV (runE p n)]) ∧ Below w.heap.size w w') ∨
  (runE p n = 0 ∧ ∃ A m c, e = .returned (.tuple #[.slice A m c, .nilIface]) ∧ (m : Int) = n ∧ Grow w w' 76 4 A m c ((evsTo p m).flatMap Ev.cells))
theorem ev_one (x : Ev) : ∀ u ∈ x.cells, u.oneCell' = true := by
  intro u hu
  simp [Ev.cells] at hu
  rcases hu with rfl | rfl | rfl | rfl <;> rfl
end Go.Proofs.YthdmgighblhmhaaGreatDoor

/- Package trace: the contract of check, for any list of events. -/
namespace Go.Proofs.YthdmgighblhmhaaGreatDoor
open Go.RowKit
set_option maxRecDepth 100000

def wIn (x lo hi : Int) : Bool := decide (lo ≤ x) && decide (x ≤ hi)
/-- What is wrong with one event: 0, nothing. -/
def evRight (x : Ev) : Bool := wIn x.tick 0 1000000 && (wIn x.room (-1) 4 && (wIn x.pc 0 19 && wIn x.what 0 5))
def evChk (x : Ev) : Int := if evRight x = false then 1 else if x.room < 0 ∧ (x.pc ≠ 0 ∨ x.what ≠ 0) then 3 else 0
def evsFirst : List Ev → Int
  | [] => 0
  | x :: l => if evChk x ≠ 0 then evChk x else evsFirst l
def evsChk (l : List Ev) : Int := if 2000 < l.length then 4 else evsFirst l
theorem evsFirst_at {l : List Ev} : ∀ {i : Nat} {x : Ev}, (∀ (j : Nat) (y : Ev), j < i → l[j]? = some y → evChk y = 0) → l[i]? = some x → evChk x ≠ 0 → evsFirst l = evChk x := by
  induction l with
  | nil => intro i x _ h; simp at h
  | cons a l ih =>
    intro i x hb hx hn
    cases i with
    | zero => simp at hx; subst hx; unfold evsFirst; rw [if_pos hn]
    | succ i =>
      unfold evsFirst
      rw [if_neg (fun h => h (hb 0 a (by omega) rfl))]
      exact ih (fun j y hj hy => hb (j + 1) y (by omega) hy) hx hn
theorem evsFirst_none {l : List Ev} : (∀ (j : Nat) (y : Ev), l[j]? = some y → evChk y = 0) → evsFirst l = 0 := by
  induction l with
  | nil => intro _; rfl
  | cons a l ih =>
    intro h
    unfold evsFirst
    rw [if_neg (fun e => e (h 0 a rfl))]
    exact ih fun j y hy => h (j + 1) y hy
/-- An event of a list that lies. -/
theorem sl_ev {w : World} {A : Option Addr} {n : Nat} {l : List Ev} (h : Sl w A 4 n (l.flatMap Ev.cells)) {i : Nat} {x : Ev} (hx : l[i]? = some x) (hn : i < n) :
    ∃ b off, A = some ⟨b, off, none⟩ ∧ b < w.heap.size ∧ w.cell? ⟨b, off + i * 4, none⟩ = some (.int .i64 x.tick) ∧ w.cell? ⟨b, off + i * 4 + 1, none⟩ = some (.int .i64 x.room) ∧ w.cell? ⟨b, off + i * 4 + 2, none⟩ = some (.int .i64 x.pc) ∧ w.cell? ⟨b, off + i * 4 + 3, none⟩ = some (.int .i64 x.what) := by
  obtain ⟨b, off, rfl, hlt, hc⟩ := h.2 (by omega)
  have hg := fun j hj => flatMap_get Ev.cells 4 (fun _ => rfl) l i j x hx hj
  refine ⟨b, off, rfl, hlt, ?_, ?_, ?_, ?_⟩
  · have := hc (i * 4 + 0) _ ((hg 0 (by decide)).trans rfl); simpa using this
  · have := hc (i * 4 + 1) _ ((hg 1 (by decide)).trans rfl); rwa [← Nat.add_assoc] at this
  · have := hc (i * 4 + 2) _ ((hg 2 (by decide)).trans rfl); rwa [← Nat.add_assoc] at this
  · have := hc (i * 4 + 3) _ ((hg 3 (by decide)).trans rfl); rwa [← Nat.add_assoc] at this
end Go.Proofs.YthdmgighblhmhaaGreatDoor

/- slices.Clone at []api.Event. -/
namespace Go.Proofs.YthdmgighblhmhaaGreatDoor
open Go.RowKit
set_option maxRecDepth 100000

theorem Tryz.infoClEvent : (Tryz.prog.info? 76).map (fun i => (i.zero, i.size, i.bytes)) = some (some (.agg #[.int .i64 0, .int .i64 0, .int .i64 0, .int .i64 0]), 4, 32) := by kernel_rfl
end Go.Proofs.YthdmgighblhmhaaGreatDoor

/- Package trace: the closure of Of, and slices.IndexFunc with it. -/
namespace Go.Proofs.YthdmgighblhmhaaGreatDoor
open Go.RowKit
set_option maxRecDepth 100000

def otherRoom (R : Int) (x : Ev) : Bool := !decide (x.room = R)
/-- The first event of another room: -1, none. -/
def IndexEv (w : World) (l : List Ev) (R : Int) (e : Ending) (w' : World) : Prop :=
  ∃ r : Int, e = .returned (.int .i64 r) ∧ Below w.heap.size w w' ∧ ((r = -1 ∧ ∀ x ∈ l, otherRoom R x = false) ∨ ∃ i : Nat, r = i ∧ i < l.length ∧ (∀ (j : Nat) (x : Ev), j < i → l[j]? = some x → otherRoom R x = false) ∧ ∀ x, l[i]? = some x → otherRoom R x = true)
end Go.Proofs.YthdmgighblhmhaaGreatDoor

/- slices.DeleteFunc at events, with the closure of trace.Of: how many are left; and trace.Of. -/
namespace Go.Proofs.YthdmgighblhmhaaGreatDoor
open Go.RowKit
set_option maxRecDepth 100000

/-- Several cells of one block are written. -/
theorem Keep.setCells {F : Nat → Prop} {a : World} {b : Nat} (hb : F b) : ∀ (vs : List Value) (o : Nat) (w : World), Keep F a w → Keep F a (w.setCells b o vs)
  | [], _, _, h => h
  | v :: r, o, w, h => by
    rw [World.setCells]
    exact Keep.setCells hb r (o + 1) _ (h.setCell (.inl hb) v)
/-- 'clear' of a slice of some elements of many cells. -/
theorem run_clear_many {P : Program} (w : World) (t e ty : TypeId) (z : Value) (k : Nat) (ht : P.underlying t = some (.slice e)) (hv : ∀ w, (zeroValue e).run P w = .ok z w) (hz : z.cells.size = k) (b o n c : Nat) (hn : 0 < n) (h1 : ∀ v ∈ (Builtin.zeroCells z.cells n).toList, v.oneCell' = true)
    (hc : w.there b o (n * k)) :
    ∃ vs : List Value, (Builtin.clear_ #[t] ty #[.slice (some ⟨b, o, none⟩) n c]).run P w = .ok (.tuple #[]) (w.setCells b o vs) := by
  have hl : (Builtin.zeroCells z.cells n).toList.length = n * k := by simp [Builtin.zeroCells, hz]
  have hst := run_storeCells_cells (P := P) b o (Builtin.zeroCells z.cells n).toList 0 w (by rw [hl]; simpa using fun j hj => (hc j hj).1) (by rw [hl]; simpa using fun j hj => (hc j hj).2) h1
  simp only [Nat.add_zero] at hst
  obtain ⟨m, rfl⟩ : ∃ m, n = m + 1 := ⟨n - 1, by omega⟩
  refine ⟨(Builtin.zeroCells z.cells (m + 1)).toList, ?_⟩
  simp only [Builtin.clear_]
  simp [run_underlying ht, hv, hst]
/-- Events of other rooms are struck: so many are left. -/
def left (R : Int) (l : List Ev) : Nat := (l.filter fun x => !otherRoom R x).length
theorem left_all {R : Int} {l : List Ev} (h : ∀ x ∈ l, otherRoom R x = false) : left R l = l.length := by
  unfold left
  rw [List.filter_eq_self.2 fun x hx => by rw [h x hx]; rfl]
theorem left_take {R : Int} {l : List Ev} {j : Nat} {x : Ev} (hx : l[j]? = some x) : left R (l.take (j + 1)) = left R (l.take j) + if otherRoom R x = false then 1 else 0 := by
  unfold left
  rw [List.take_add_one, hx, Option.toList_some, List.filter_append, List.length_append]
  cases h : otherRoom R x <;> simp [h]
theorem left_le {R : Int} (l : List Ev) : left R l ≤ l.length := List.length_filter_le _ _
/-- Midway: what is not yet read lies as it did. -/
structure DelMid (w wr : World) (b off n : Nat) (xs : List Value) (j : Nat) : Prop where
  rest : ∀ q v, j * 4 ≤ q → xs[q]? = some v → wr.cell? ⟨b, off + q, none⟩ = some v
  there : wr.there b off (n * 4)
  keep : Keep (fun k => k = b) w wr
section
variable {w wr w' : World} {b off n j : Nat} {xs : List Value}
theorem DelMid.new (h : DelMid w wr b off n xs j) (hb : Below wr.heap.size wr w') (hlt : b < wr.heap.size) : DelMid w w' b off n xs j :=
  ⟨fun q v hq hv => (hb.cell (p := ⟨b, off + q, none⟩) hlt).trans (h.rest q v hq hv), fun q hq => ⟨by rw [hb.cell (p := ⟨b, off + q, none⟩) hlt]; exact (h.there q hq).1, by
    have h1 := (h.there q hq).2
    rw [← h1]
    unfold World.frozen?
    rw [hb.block b hlt]⟩, h.keep.then (Keep.of_below NoF hb) fun _ _ hf => hf.elim⟩
theorem DelMid.on (h : DelMid w wr b off n xs j) {j' : Nat} (hj : j ≤ j') : DelMid w wr b off n xs j' := ⟨fun q v hq hv => h.rest q v (by omega) hv, h.there, h.keep⟩
theorem DelMid.put (h : DelMid w wr b off n xs j) {i : Nat} (hi : i < j) (vs : List Value) (hl : vs.length = 4) : DelMid w (wr.setCells b (off + i * 4) vs) b off n xs j :=
  ⟨fun q v hq hv => by
    rw [World.cell?_setCells_out b vs _ wr ⟨b, off + q, none⟩ fun _ _ => .inr (by simp only []; omega)]
    exact h.rest q v hq hv, World.there_setCells h.there _ _ _, Keep.setCells (F := fun k => k = b) rfl _ _ _ h.keep⟩
end
def DelV (w : World) (A : Option Addr) (n : Nat) (R : Int) (l : List Ev) (e : Ending) (w' : World) : Prop := ∃ A' k c', e = .returned (.slice A' k c') ∧ k = left R l ∧ Keep (InA A) w w' ∧ k ≤ n
end Go.Proofs.YthdmgighblhmhaaGreatDoor

/- Plain: events as text, a line an event: which lines are an event's, which texts are events. No program is walked. Conditions: none. -/
namespace Go.Proofs.YthdmgighblhmhaaGreatDoor

/-- A room's number as it stands in an event's line. -/
def roomT (x : Ev) : List UInt8 := if 0 ≤ x.room then Lib.itoa x.room else [45]
/-- An event's line without its end. -/
def evLine (x : Ev) : List UInt8 := Lib.itoa x.tick ++ 32 :: (roomT x ++ 32 :: (Lib.itoa x.pc ++ 32 :: Lib.itoa x.what))
def evText (x : Ev) : List UInt8 := evLine x ++ [10]
def evsText (l : List Ev) : List UInt8 := l.flatMap evText
/-- An event such as a line may say it. -/
structure WfEv (x : Ev) : Prop where
  tick : 0 ≤ x.tick ∧ x.tick < 10 ^ 7
  room : -1 ≤ x.room ∧ x.room < 10 ^ 7
  pc : 0 ≤ x.pc ∧ x.pc < 10 ^ 7
  what : 0 ≤ x.what ∧ x.what < 10 ^ 7
theorem roomT_no (x : Ev) {c : UInt8} (hc : c = 32 ∨ c = 10) : c ∉ roomT x := by
  unfold roomT
  split
  · intro h
    have := itoa_mem _ h
    rcases hc with rfl | rfl <;> simp at this
  · rcases hc with rfl | rfl <;> decide
theorem itoa_no (n : Int) {c : UInt8} (hc : c = 32 ∨ c = 10) : c ∉ Lib.itoa n := by
  intro h
  have := itoa_mem _ h
  rcases hc with rfl | rfl <;> simp at this
theorem cut_ev (x : Ev) : cutA 32 [] (evLine x) = [Lib.itoa x.tick, roomT x, Lib.itoa x.pc, Lib.itoa x.what] := by
  unfold evLine
  rw [cutA_pass 32 _ [] _ (itoa_no _ (.inl rfl)), List.nil_append, cutA, if_pos rfl, cutA_pass 32 _ [] _ (roomT_no x (.inl rfl)), List.nil_append, cutA, if_pos rfl, cutA_pass 32 _ [] _ (itoa_no _ (.inl rfl)), List.nil_append, cutA, if_pos rfl]
  have := cutA_pass 32 (Lib.itoa x.what) [] [] (itoa_no _ (.inl rfl))
  rw [List.append_nil, List.nil_append] at this
  rw [this]; rfl
theorem ev_no10 (x : Ev) : (10 : UInt8) ∉ evLine x := by
  unfold evLine
  intro h
  simp only [List.mem_append, List.mem_cons] at h
  rcases h with h | h | h | h | h | h | h
  · exact itoa_no _ (.inr rfl) h
  · exact absurd h (by decide)
  · exact roomT_no x (.inr rfl) h
  · exact absurd h (by decide)
  · exact itoa_no _ (.inr rfl) h
  · exact absurd h (by decide)
  · exact itoa_no _ (.inr rfl) h
/-- The second word as it is read: a bar stands for none. -/
def wordOf (b : List UInt8) : List UInt8 := if b = [45] then [48] else b
theorem itoa_zero : Lib.itoa 0 = [48] := by
  have := itoa_nat 0
  rw [Lib.decDigits_one (by decide)] at this
  exact this
theorem itoa_bar (n : Nat) : Lib.itoa (n : Int) ≠ [45] := by
  intro h
  have h1 := dec_digit n 45
  rw [← itoa_nat, h] at h1
  have := h1 (by simp)
  simp at this
/-- A line is an event's. -/
theorem evread_yes {s a b c d : List UInt8} {n0 n1 n2 n3 : Nat} (hc : cutA 32 [] s = [a, b, c, d]) (hn : numsOf 7 [a, wordOf b, c, d] = some [n0, n1, n2, n3]) :
    WfEv ⟨n0, if b = [45] then -1 else n1, n2, n3⟩ ∧ evLine ⟨n0, if b = [45] then -1 else n1, n2, n3⟩ = s := by
  obtain ⟨h1, h2⟩ := (numsOf_some (by decide)).1 hn
  simp only [List.map_cons, List.map_nil, List.cons.injEq, and_true] at h1
  obtain ⟨e0, e1, e2, e3⟩ := h1
  have lt : ∀ (n : Nat) (t : List UInt8), t ∈ [a, wordOf b, c, d] → t = Lib.itoa (n : Int) → n < 10 ^ 7 := fun n t ht e => by
    have := h2 t ht
    rw [e, itoa_nat] at this
    exact num_lt (by omega)
  have l0 := lt n0 a (by simp) e0
  have l1 := lt n1 (wordOf b) (by simp) e1
  have l2 := lt n2 c (by simp) e2
  have l3 := lt n3 d (by simp) e3
  have hj := cutA_join 32 s [] a [b, c, d] hc
  rw [List.nil_append] at hj
  have hb : roomT ⟨n0, if b = [45] then -1 else n1, n2, n3⟩ = b := by
    unfold roomT
    by_cases hbar : b = [45]
    · simp only [hbar, if_true]
      rw [if_neg (by decide)]
    · simp only [hbar, if_false]
      unfold wordOf at e1
      rw [if_neg hbar] at e1
      rw [if_pos (by omega), e1]
  refine ⟨⟨⟨by simp, by simpa using (by omega : (n0 : Int) < 10 ^ 7)⟩, ?_, ⟨by simp, by simpa using (by omega : (n2 : Int) < 10 ^ 7)⟩, ⟨by simp, by simpa using (by omega : (n3 : Int) < 10 ^ 7)⟩⟩, ?_⟩
  · show -1 ≤ (if b = [45] then -1 else (n1 : Int)) ∧ (if b = [45] then -1 else (n1 : Int)) < 10 ^ 7
    split <;> omega
  · unfold evLine
    rw [hb, hj, e0, e2, e3]
    simp
/-- What an event's line is read as. -/
theorem evread_nums {x : Ev} (h : WfEv x) : numsOf 7 [Lib.itoa x.tick, wordOf (roomT x), Lib.itoa x.pc, Lib.itoa x.what] = some [x.tick.toNat, (if 0 ≤ x.room then x.room.toNat else 0), x.pc.toNat, x.what.toNat] ∧ (roomT x = [45] ↔ x.room < 0) := by
  have hb : (roomT x = [45] ↔ x.room < 0) := by
    unfold roomT
    split
    · rename_i h0
      obtain ⟨u, hu⟩ : ∃ u : Nat, x.room = u := ⟨x.room.toNat, by omega⟩
      rw [hu]
      exact ⟨fun e => absurd e (itoa_bar u), fun e => by omega⟩
    · exact ⟨fun _ => by omega, fun _ => rfl⟩
  refine ⟨?_, hb⟩
  have hw : wordOf (roomT x) = Lib.itoa (if 0 ≤ x.room then x.room else 0) := by
    unfold wordOf
    by_cases h0 : 0 ≤ x.room
    · rw [if_neg (fun e => by have := hb.1 e; omega), if_pos h0]
      unfold roomT; rw [if_pos h0]
    · rw [if_pos (hb.2 (by omega)), if_neg h0, itoa_zero]
  have hm : numsOf ((6 + 1 : Nat) : Int) ([x.tick, (if 0 ≤ x.room then x.room else 0), x.pc, x.what].map Lib.itoa) = some ([x.tick, (if 0 ≤ x.room then x.room else 0), x.pc, x.what].map Int.toNat) := by
    refine numsOf_itoa (k := 6) (by decide) fun n hn => ?_
    have := h.tick; have := h.room; have := h.pc; have := h.what
    simp only [List.mem_cons, List.mem_nil_iff, or_false] at hn
    rcases hn with rfl | rfl | rfl | rfl
    · omega
    · split <;> omega
    · omega
    · omega
  rw [hw]
  refine hm.trans ?_
  simp only [List.map_cons, List.map_nil]
  by_cases h0 : 0 ≤ x.room <;> simp [h0]
theorem ev_inj {x y : Ev} (hx : WfEv x) (hy : WfEv y) (e : evLine x = evLine y) : x = y := by
  have h1 := cut_ev x
  rw [e, cut_ev] at h1
  obtain ⟨a1, a2⟩ := evread_nums hx
  obtain ⟨b1, b2⟩ := evread_nums hy
  simp only [List.cons.injEq, and_true] at h1
  obtain ⟨e0, e1, e2, e3⟩ := h1
  rw [← e0, ← e1, ← e2, ← e3, b1] at a1
  simp only [Option.some.injEq, List.cons.injEq, and_true] at a1
  obtain ⟨c0, c1, c2, c3⟩ := a1
  have hr : (x.room < 0 ↔ y.room < 0) := by rw [← a2, ← b2, e1]
  have := hx.tick; have := hx.room; have := hx.pc; have := hx.what
  have := hy.tick; have := hy.room; have := hy.pc; have := hy.what
  obtain ⟨x0, x1, x2, x3⟩ := x
  obtain ⟨y0, y1, y2, y3⟩ := y
  simp only at *
  have f1 : x1 = y1 := by
    by_cases h0 : 0 ≤ x1
    · rw [if_pos h0, if_pos (by omega)] at c1; omega
    · omega
  rw [f1]
  congr 1 <;> omega
theorem linesG_of {α : Type} (f : α → List UInt8) : ∀ (l : List α), (∀ o ∈ l, (10 : UInt8) ∉ f o) → linesOf (l.flatMap fun o => f o ++ [10]) = l.map fun o => f o ++ [10]
  | [], _ => rfl
  | o :: l, h => by
    rw [List.flatMap_cons, List.append_assoc, List.map_cons]
    show linesOf (f o ++ 10 :: l.flatMap fun o => f o ++ [10]) = _
    rw [linesOf_line _ _ (h o (by simp)), linesG_of f l (fun o ho => h o (by simp [ho]))]
theorem lines_evs (l : List Ev) : linesOf (evsText l) = l.map evText := linesG_of evLine l fun x _ => ev_no10 x
theorem evs_of {t : List UInt8} {l : List Ev} (h : linesOf t = l.map evText) : evsText l = t := by
  rw [← lines_join t, h]
  unfold evsText
  rw [List.flatMap_def]
theorem evs_not {t x : List UInt8} (hx : x ∈ linesOf t) (hno : ∀ o, WfEv o → evText o ≠ x) : ∀ l : List Ev, (∀ o ∈ l, WfEv o) → evsText l ≠ t := by
  rintro l hl rfl
  rw [lines_evs] at hx
  obtain ⟨o, ho, he⟩ := List.mem_map.1 hx
  exact hno o (hl o ho) he
theorem evs_inj {l l' : List Ev} (h : ∀ o ∈ l, WfEv o) (h' : ∀ o ∈ l', WfEv o) (e : evsText l = evsText l') : l = l' := by
  have h1 := lines_evs l
  rw [e, lines_evs] at h1
  have H : ∀ (a b : List Ev), (∀ o ∈ a, WfEv o) → (∀ o ∈ b, WfEv o) → a.map evText = b.map evText → a = b := by
    intro a
    induction a with
    | nil =>
      intro b _ _ hm
      cases b with
      | nil => rfl
      | cons y b => simp at hm
    | cons x a ih =>
      intro b ha hb hm
      cases b with
      | nil => simp at hm
      | cons y b =>
        rw [List.map_cons, List.map_cons] at hm
        injection hm with h2 h3
        rw [ih b (fun o ho => ha o (by simp [ho])) (fun o ho => hb o (by simp [ho])) h3]
        rw [ev_inj (ha x (by simp)) (hb y (by simp)) (List.append_cancel_right h2)]
  exact (H l' l h' h h1).symm
/-- Events that are right may stand in lines. -/
theorem wfev_ok {x : Ev} (h : evChk x = 0) : WfEv x := by
  unfold evChk at h
  split at h
  · cases h
  · rename_i hr
    have hr2 : evRight x = true := by simpa using hr
    unfold evRight wIn at hr2
    simp only [Bool.and_eq_true, decide_eq_true_eq] at hr2
    obtain ⟨⟨t0, t1⟩, ⟨r0, r1⟩, ⟨p0, p1⟩, w0, w1⟩ := hr2
    exact ⟨by omega, by omega, by omega, by omega⟩
theorem evsFirst_all : ∀ {l : List Ev}, evsFirst l = 0 → ∀ x ∈ l, evChk x = 0
  | [], _, x, hx => by cases hx
  | y :: l, h, x, hx => by
    unfold evsFirst at h
    split at h
    · rename_i h1; exact absurd h h1
    · rename_i h1
      rcases List.mem_cons.1 hx with rfl | hx
      · exact Decidable.not_not.1 h1
      · exact evsFirst_all h x hx
theorem wfevs_ok {l : List Ev} (h : evsChk l = 0) : l.length ≤ 2000 ∧ ∀ x ∈ l, WfEv x := by
  unfold evsChk at h
  split at h
  · cases h
  · exact ⟨by omega, fun x hx => wfev_ok (evsFirst_all h x hx)⟩
theorem ev_le {x : Ev} (h : WfEv x) : (evText x).length ≤ 32 := by
  have h0 := itoa_le (k := 6) h.tick.1 h.tick.2
  have h2 := itoa_le (k := 6) h.pc.1 h.pc.2
  have h3 := itoa_le (k := 6) h.what.1 h.what.2
  have h1 : (roomT x).length ≤ 7 := by
    unfold roomT
    split
    · rename_i hr; exact itoa_le (k := 6) hr h.room.2
    · decide
  unfold evText evLine
  simp only [List.length_append, List.length_cons, List.length_nil]; omega
theorem evs_le {l : List Ev} (h : ∀ x ∈ l, WfEv x) : (evsText l).length ≤ 32 * l.length := by
  induction l with
  | nil => simp [evsText]
  | cons x l ih =>
    have h1 := ih fun y hy => h y (by simp [hy])
    have h2 := ev_le (h x (by simp))
    unfold evsText at h1 ⊢
    rw [List.flatMap_cons, List.length_append, List.length_cons]; omega
end Go.Proofs.YthdmgighblhmhaaGreatDoor

/- Plain: events by room, and by kind, are all of them; the events that the statement reads first. No program is walked. Conditions: none. -/
namespace Go.Proofs.YthdmgighblhmhaaGreatDoor

/-- So many in all, of the first places. -/
def upSum (f : Nat → Nat) : Nat → Nat
  | 0 => 0
  | k + 1 => upSum f k + f k
theorem upSum_add (f g : Nat → Nat) : ∀ k, upSum (fun i => f i + g i) k = upSum f k + upSum g k
  | 0 => rfl
  | k + 1 => by
    unfold upSum
    rw [upSum_add f g k]; omega
theorem upSum_one (j : Nat) : ∀ k, upSum (fun i => if j = i then 1 else 0) k = if j < k then 1 else 0
  | 0 => rfl
  | k + 1 => by
    unfold upSum
    rw [upSum_one j k]
    by_cases h1 : j < k
    · rw [if_pos h1, if_neg (by omega), if_pos (by omega)]
    · by_cases h2 : j = k
      · rw [if_neg h1, if_pos h2, if_pos (by omega)]
      · rw [if_neg h1, if_neg h2, if_neg (by omega)]
theorem upSum_congr {f g : Nat → Nat} : ∀ {k : Nat}, (∀ i, i < k → f i = g i) → upSum f k = upSum g k
  | 0, _ => rfl
  | k + 1, h => by
    unfold upSum
    rw [upSum_congr fun i hi => h i (by omega), h k (by omega)]
/-- So many events of a kind, or of a room. -/
def cntF (f : Ev → Int) (l : List Ev) (v : Int) : Nat := (l.filter fun x => decide (f x = v)).length
theorem cntF_cons (f : Ev → Int) (x : Ev) (l : List Ev) (v : Int) : cntF f (x :: l) v = (if f x = v then 1 else 0) + cntF f l v := by
  unfold cntF
  rw [List.filter_cons]
  by_cases h : f x = v
  · simp [h]; omega
  · simp [h]
theorem cntF_all (f : Ev → Int) (lo : Int) (N : Nat) : ∀ (l : List Ev), (∀ x ∈ l, lo ≤ f x ∧ f x < lo + N) → upSum (fun i => cntF f l (lo + i)) N = l.length
  | [], _ => by
    have : ∀ k, upSum (fun i => cntF f [] (lo + i)) k = 0 := by
      intro k
      induction k with
      | zero => rfl
      | succ k ih => unfold upSum; rw [ih]; rfl
    exact this N
  | x :: l, h => by
    have h1 := h x (by simp)
    have e : ∀ i, i < N → cntF f (x :: l) (lo + i) = (if (f x - lo).toNat = i then 1 else 0) + cntF f l (lo + i) := fun i _ => by
      rw [cntF_cons]
      congr 1
      by_cases h2 : f x = lo + i
      · rw [if_pos h2, if_pos (by omega)]
      · rw [if_neg h2, if_neg (by omega)]
    rw [upSum_congr e, upSum_add, upSum_one, cntF_all f lo N l fun y hy => h y (by simp [hy]), if_pos (by omega), List.length_cons]; omega
theorem left_cnt (R : Int) (l : List Ev) : left R l = cntF Ev.room l R := by
  unfold left cntF otherRoom
  congr 1
  congr 1
  funext x
  simp
theorem cntF_le (f : Ev → Int) (l : List Ev) (v : Int) : cntF f l v ≤ l.length := List.length_filter_le _ _
theorem upSum_le (f : Nat → Nat) (B : Nat) : ∀ k, (∀ i, i < k → f i ≤ B) → upSum f k ≤ k * B
  | 0, _ => by simp [upSum]
  | k + 1, h => by
    have h1 := upSum_le f B k fun i hi => h i (by omega)
    have h2 := h k (by omega)
    unfold upSum
    rw [Nat.succ_mul]; omega
theorem ev_bounds {x : Ev} (h : evChk x = 0) : (-1 ≤ x.room ∧ x.room < -1 + (6 : Nat)) ∧ (0 ≤ x.what ∧ x.what < 0 + (6 : Nat)) := by
  unfold evChk at h
  split at h
  · cases h
  · rename_i hr
    have hr2 : evRight x = true := by simpa using hr
    unfold evRight wIn at hr2
    simp only [Bool.and_eq_true, decide_eq_true_eq] at hr2
    obtain ⟨_, ⟨r0, r1⟩, _, w0, w1⟩ := hr2
    omega
theorem evs_each {l : List Ev} (h : evsChk l = 0) : l.length ≤ 2000 ∧ ∀ x ∈ l, evChk x = 0 := by
  unfold evsChk at h
  split at h
  · cases h
  · exact ⟨by omega, evsFirst_all h⟩
theorem rooms_all {l : List Ev} (h : evsChk l = 0) : upSum (fun i => left (-1 + (i : Int)) l) 6 = l.length := by
  have := cntF_all Ev.room (-1) 6 l fun x hx => (ev_bounds ((evs_each h).2 x hx)).1
  rw [← this]
  exact upSum_congr fun i _ => left_cnt _ _
theorem kinds_all {l : List Ev} (h : evsChk l = 0) : upSum (fun i => cntF Ev.what l i) 6 = l.length := by
  have := cntF_all Ev.what 0 6 l fun x hx => (ev_bounds ((evs_each h).2 x hx)).2
  rw [← this]
  exact upSum_congr fun i _ => by rw [Int.zero_add]
/-- The text that the statement reads first. -/
def factEvs : List Ev := [⟨0, -1, 0, 0⟩, ⟨1, 2, 3, 1⟩]
theorem itoa_digit {i : Nat} (h : i < 10) : Lib.itoa (i : Int) = [UInt8.ofNat (48 + i)] := by rw [itoa_nat]; exact Lib.decDigits_one h
theorem factE_text : evsText factEvs = [48, 32, 45, 32, 48, 32, 48, 10, 49, 32, 50, 32, 51, 32, 49, 10] := by
  have h0 : Lib.itoa 0 = [48] := itoa_digit (i := 0) (by decide)
  have h1 : Lib.itoa 1 = [49] := itoa_digit (i := 1) (by decide)
  have h2 : Lib.itoa 2 = [50] := itoa_digit (i := 2) (by decide)
  have h3 : Lib.itoa 3 = [51] := itoa_digit (i := 3) (by decide)
  simp [evsText, factEvs, evText, evLine, roomT, h0, h1, h2, h3]
theorem factE_ok : evsChk factEvs = 0 := by decide
end Go.Proofs.YthdmgighblhmhaaGreatDoor

/- Package trace: the contract of read, for every line. Conditions: 'Desk', which the row lists; no line is longer than 2^30 bytes. -/
namespace Go.Proofs.YthdmgighblhmhaaGreatDoor
open Go.RowKit
set_option maxRecDepth 100000

/-- What read hands back. -/
def EReadGot (s : ByteArray) (w : World) (e : Ending) (w' : World) : Prop :=
  Below w.heap.size w w' ∧ ((∃ x : Ev, WfEv x ∧ evLine x = s.data.toList ∧ e = .returned (.tuple #[.agg #[.int .i64 x.tick, .int .i64 x.room, .int .i64 x.pc, .int .i64 x.what], .bool true])) ∨
    ((∀ x, WfEv x → evLine x ≠ s.data.toList) ∧ e = .returned (.tuple #[.agg #[.int .i64 0, .int .i64 0, .int .i64 0, .int .i64 0], .bool false])))
/-- The second word as it is put. -/
def wordB (b : ByteArray) : ByteArray := if b = ⟨#[45]⟩ then ⟨#[48]⟩ else b
/-- A row of four words, and the second put anew. -/
theorem four_sl {w : World} {b T : Nat} {x0 x1 x2 x3 : Value} (h : w.heap[b]? = some (.cells #[x0, x1, x2, x3] T (0, 0))) : Sl w (some ⟨b, 0, none⟩) 1 4 [x0, x1, x2, x3] := by
  refine ⟨rfl, fun _ => ⟨b, 0, rfl, blk_lt h, fun j u hu => ?_⟩⟩
  rw [Nat.zero_add, blk_cell h]
  simpa using hu
theorem four_set {w : World} {b off : Nat} {x0 x1 x2 x3 v : Value} (q0 : w.cell? ⟨b, off, none⟩ = some x0) (q1 : w.cell? ⟨b, off + 1, none⟩ = some x1) (q2 : w.cell? ⟨b, off + 2, none⟩ = some x2) (q3 : w.cell? ⟨b, off + 3, none⟩ = some x3) :
    (w.setCell ⟨b, off + 1, none⟩ v).cell? ⟨b, off, none⟩ = some x0 ∧ (w.setCell ⟨b, off + 1, none⟩ v).cell? ⟨b, off + 1, none⟩ = some v ∧ (w.setCell ⟨b, off + 1, none⟩ v).cell? ⟨b, off + 2, none⟩ = some x2 ∧ (w.setCell ⟨b, off + 1, none⟩ v).cell? ⟨b, off + 3, none⟩ = some x3 :=
  ⟨(World.cell?_setCell_other _ _ _ _ (by simp)).trans q0, World.cell?_setCell_same _ _ _ q1, (World.cell?_setCell_other _ _ _ _ (by simp)).trans q2, (World.cell?_setCell_other _ _ _ _ (by simp)).trans q3⟩
theorem bar_iff (b : ByteArray) : b = ⟨#[45]⟩ ↔ b.data.toList = [45] := ⟨fun e => by rw [e], fun h => by
  cases b with
  | mk d => simp only at h; congr 1; exact Array.toList_inj.1 h⟩
theorem wordB_data (b : ByteArray) : (wordB b).data.toList = wordOf b.data.toList := by
  unfold wordB wordOf
  by_cases h : b = ⟨#[45]⟩
  · rw [if_pos h, if_pos ((bar_iff b).1 h)]
  · rw [if_neg h, if_neg (fun e => h ((bar_iff b).2 e))]
/-- The result's four cells are stored. -/
theorem put_four {w6 : World} {b T : Nat} {x0 x1 x2 x3 : Value} (hx : w6.heap[b]? = some (.cells #[x0, x1, x2, x3] T (0, 0))) (y0 y1 y2 y3 : Value) :
    ((((w6.setCell ⟨b, 0, none⟩ y0).setCell ⟨b, 1, none⟩ y1).setCell ⟨b, 2, none⟩ y2).setCell ⟨b, 3, none⟩ y3).heap[b]? = some (.cells #[y0, y1, y2, y3] T (0, 0)) :=
  blk_set (blk_set (blk_set (blk_set hx 0 y0) 1 y1) 2 y2) 3 y3
theorem four_below {w w6 : World} {y0 y1 y2 y3 : Value} (hb : Below w.heap.size w w6) : Below w.heap.size w ((((w6.setCell ⟨w.heap.size, 0, none⟩ y0).setCell ⟨w.heap.size, 1, none⟩ y1).setCell ⟨w.heap.size, 2, none⟩ y2).setCell ⟨w.heap.size, 3, none⟩ y3) :=
  (((hb.setCell (p := ⟨w.heap.size, 0, none⟩) (Nat.le_refl _) _).setCell (p := ⟨w.heap.size, 1, none⟩) (Nat.le_refl _) _).setCell (p := ⟨w.heap.size, 2, none⟩) (Nat.le_refl _) _).setCell (p := ⟨w.heap.size, 3, none⟩) (Nat.le_refl _) _
end Go.Proofs.YthdmgighblhmhaaGreatDoor

/- Package trace: the contract of Parse, for every text. Conditions: 'Desk', which the row lists; no text is longer than 2^30 bytes. -/
namespace Go.Proofs.YthdmgighblhmhaaGreatDoor
open Go.RowKit Go.Shelf
set_option maxRecDepth 100000
attribute [local go_sem] Oper.semAt_some

/-- What Parse hands back. -/
def EParseGot (t : ByteArray) (w : World) (e : Ending) (w' : World) : Prop :=
  Below w.heap.size w w' ∧
  ((∃ (l : List Ev) (A : Option Addr) (n c : Nat), (∀ o ∈ l, WfEv o) ∧ evsText l = t.data.toList ∧ (evsChk l) = 0 ∧ l.length = n ∧ e = .returned (.tuple #[.slice A n c, .nilIface]) ∧ Row w' 76 4 A n c (l.flatMap Ev.cells) ∧ ∀ i, InA A i → w.heap.size ≤ i) ∨
   (∃ l : List Ev, (∀ o ∈ l, WfEv o) ∧ evsText l = t.data.toList ∧ (evsChk l) ≠ 0 ∧ e = .returned (.tuple #[.slice none 0 0, errV (evsChk l)])) ∨
   ((∀ l : List Ev, (∀ o ∈ l, WfEv o) → evsText l ≠ t.data.toList) ∧ e = .returned (.tuple #[.slice none 0 0, errV 2])))

theorem evText_10 (o : Ev) : (10 : UInt8) ∈ evText o := by unfold evText; simp

theorem one_ev3 (w : World) (o : Obj) {x y z u : Value} {T : Nat} : Sl ((w.alloc o).alloc (.cells #[x, y, z, u] T)) (some ⟨w.heap.size + 1, 0, none⟩) 4 1 [x, y, z, u] := by
  have h := heap_alloc_new (w.alloc o) (.cells #[x, y, z, u] T)
  rw [sz_alloc] at h
  refine ⟨rfl, fun _ => ⟨w.heap.size + 1, 0, rfl, blk_lt h, fun j u hu => ?_⟩⟩
  rw [Nat.zero_add, blk_cell h]
  simpa using hu
end Go.Proofs.YthdmgighblhmhaaGreatDoor

/- Package trace: a text of its own is read as the events it was. Conditions: 'Desk'. -/
namespace Go.Proofs.YthdmgighblhmhaaGreatDoor
open Go.RowKit
set_option maxRecDepth 100000

theorem belowQE {B : Nat} {a w : World} (h : Below B a w) (n : Nat) : Below B a (w.drewN n) := ⟨h.os, h.tape, h.output, h.size, h.block⟩
theorem etxt_of (t : ByteArray) : txt t.data.toList = .string t := rfl
end Go.Proofs.YthdmgighblhmhaaGreatDoor

/- Package trace: the contracts of Text and Print. Conditions: the library's table of powers, which the row lists. -/
namespace Go.Proofs.YthdmgighblhmhaaGreatDoor
open Go.RowKit
set_option maxRecDepth 100000

theorem text_ret {w w' : World} {ac : Act} {a r p q : Int} {R : ByteArray} (h : ac.tmps[2]? = some (.string (⟨(Lib.itoa a).toArray⟩ ++ ⟨#[32]⟩ ++ R ++ ⟨#[32]⟩ ++ ⟨(Lib.itoa p).toArray⟩ ++ ⟨#[32]⟩ ++ ⟨(Lib.itoa q).toArray⟩))) (hd : ac.defers = []) (hR : R.data.toList = roomT ⟨a, r, p, q⟩) (hb : Below w.heap.size w w') :
    bodyPost Tryz.prog Tryz.f57 (fun e w' => ∃ T : ByteArray, e = .returned (.string T) ∧ T.data.toList = evLine ⟨a, r, p, q⟩ ∧ Below w.heap.size w w') .ret ac w' := by
  refine bodyPost_ret (by simp [results, Tryz.results57, go_sem, h]; rfl) hd ⟨_, rfl, ?_, hb⟩
  simp only [ByteArray.data_append, Array.toList_append, hR]
  unfold evLine
  simp
set_option maxHeartbeats 4000000 in
theorem ttext_any (x : Ev) (hx : WfEv x) (w : World) (hp : Pows w) : Calls Tryz.prog 57 #[.agg #[.int .i64 x.tick, .int .i64 x.room, .int .i64 x.pc, .int .i64 x.what]] w fun e w' => ∃ T : ByteArray, e = .returned (.string T) ∧ T.data.toList = evLine x ∧ Below w.heap.size w w' := by
  have HPL := hid (pows_lt hp)
  obtain ⟨a, r, p, q⟩ := x
  have h0 := hx.tick
  have h1 := hx.room
  have h2 := hx.pc
  have h3 := hx.what
  simp only at h0 h1 h2 h3 ⊢
  have HIT : Hid (∀ (n : Int) (w' : World), -9223372036854775808 ≤ n → n ≤ 9223372036854775807 → Below w.heap.size w w' → Calls Tryz.prog 80 #[.int .i64 n] w' fun e w'' => e = .returned (.string ⟨(Lib.itoa n).toArray⟩) ∧ Below w'.heap.size w' w'') := hid fun n w' a b hb => itoaS_any n a b w' (hp.new HPL.out hb)
  have la := itoa_le (k := 6) h0.1 h0.2
  have lp := itoa_le (k := 6) h2.1 h2.2
  have lq := itoa_le (k := 6) h3.1 h3.2
  have HLEN : Hid ((Lib.itoa a).length ≤ 7 ∧ (Lib.itoa p).length ≤ 7 ∧ (Lib.itoa q).length ≤ 7) := hid ⟨la, lp, lq⟩
  obtain ⟨w1, hw1⟩ : ∃ w1, w1 = w.alloc (.cells #[.int .i64 a, .int .i64 r, .int .i64 p, .int .i64 q] 76) := ⟨_, rfl⟩
  have hb1 : Below w.heap.size w w1 := by rw [hw1]; exact (Below.refl _ _).alloc (Nat.le_refl _) _
  have hbx : w1.heap[w.heap.size]? = some (.cells #[.int .i64 a, .int .i64 r, .int .i64 p, .int .i64 q] 76 (0, 0)) := by rw [hw1]; exact heap_alloc_new w _
  have HBX : Hid (∀ w', Below w1.heap.size w1 w' → w'.cell? ⟨w.heap.size, 0, none⟩ = some (.int .i64 a) ∧ w'.cell? ⟨w.heap.size, 2, none⟩ = some (.int .i64 p) ∧ w'.cell? ⟨w.heap.size, 3, none⟩ = some (.int .i64 q)) := hid fun w' hb => by
    have h := (hb.block _ (blk_lt hbx)).trans hbx
    have x0 := blk_cell h 0
    have x2 := blk_cell h 2
    have x3 := blk_cell h 3
    simp at x0 x2 x3
    exact ⟨x0, x2, x3⟩
  have HI1 : Hid (∀ (n : Int) (w' : World), -9223372036854775808 ≤ n → n ≤ 9223372036854775807 → Below w1.heap.size w1 w' → Calls Tryz.prog 80 #[.int .i64 n] w' fun e w'' => e = .returned (.string ⟨(Lib.itoa n).toArray⟩) ∧ Below w'.heap.size w' w'') := hid fun n w' x y hb => HIT.out n w' x y (hb1.trans (hb.mono hb1.size))
  have HB1 := hid hb1
  have y1 := blk_cell hbx 1
  have hlx := blk_lt hbx
  simp at y1
  clear hp hx la lp lq hb1 hbx HIT
  go_enter Tryz.func57, Tryz.ntmps57
  by_cases hr : 0 ≤ r
  · go_upto_region 4 with (go_at_call 80; rw [← hw1]; refine (HI1.out r w1 (by omega) (by omega) (Below.refl _ _)).mono ?_; rintro e w2 ⟨rfl, hb2⟩; have HB := hid hb2; clear hb2 hw1 y1 hlx)
    obtain ⟨R, hR⟩ : ∃ R : ByteArray, R = ⟨(Lib.itoa r).toArray⟩ := ⟨_, rfl⟩
    rw [← hR]
    have hRd : R.data.toList = roomT ⟨a, r, p, q⟩ := by unfold roomT; rw [hR, if_pos hr]
    have lR : R.size ≤ 7 := by rw [hR, Lib.size_eq]; exact itoa_le (k := 6) hr h1.2
    obtain ⟨x0, x2, x3⟩ := HBX.out _ HB.out
    have HRD := hid hRd
    obtain ⟨la, lp, lq⟩ := HLEN.out
    have k1 : ¬ 9223372036854775807 < (Lib.itoa a).length + 1 := by omega
    have k2 : ¬ 9223372036854775807 < (Lib.itoa a).length + 1 + R.size := by omega
    have k3 : ¬ 9223372036854775807 < (Lib.itoa a).length + 1 + R.size + 1 := by omega
    have k4 : ¬ 9223372036854775807 < (Lib.itoa a).length + 1 + R.size + 1 + (Lib.itoa p).length := by omega
    have k5 : ¬ 9223372036854775807 < (Lib.itoa a).length + 1 + R.size + 1 + (Lib.itoa p).length + 1 := by omega
    have k6 : ¬ 9223372036854775807 < (Lib.itoa a).length + 1 + R.size + 1 + (Lib.itoa p).length + 1 + (Lib.itoa q).length := by omega
    clear hR hRd
    go_region_held3 (fun w' => w'.cell? ⟨w.heap.size, 0, none⟩ = some (.int .i64 a) ∧ w'.cell? ⟨w.heap.size, 2, none⟩ = some (.int .i64 p) ∧ w'.cell? ⟨w.heap.size, 3, none⟩ = some (.int .i64 q))
      (first | (with_reducible exact HBX.out _ HB.out) | exact ⟨‹_›, ‹_›, ‹_›⟩)
      (first | (go_at_call 80; refine (HI1.out _ _ (by omega) (by omega) (by first | exact HB.out.drew | exact HB.out)).mono ?_; rintro e w3 ⟨rfl, hb3⟩; replace HB := hid (Below.trans (by first | exact HB.out.drew | exact HB.out) (hb3.mono HB.out.size)); clear hb3))
    all_goals
      go_wp2_with fail
      exact text_ret rfl rfl HRD.out (HB1.out.trans (HB.out.mono HB1.out.size))
  · go_upto_region 4 with fail
    rw [← hw1]
    obtain ⟨R, hR⟩ : ∃ R : ByteArray, R = ⟨#[45]⟩ := ⟨_, rfl⟩
    rw [← hR]
    have hRd : R.data.toList = roomT ⟨a, r, p, q⟩ := by unfold roomT; rw [hR, if_neg hr]
    have lR : R.size ≤ 7 := by rw [hR]; decide
    have HB := hid (Below.refl w1.heap.size w1)
    clear hw1 y1 hlx
    obtain ⟨x0, x2, x3⟩ := HBX.out _ HB.out
    have HRD := hid hRd
    obtain ⟨la, lp, lq⟩ := HLEN.out
    have k1 : ¬ 9223372036854775807 < (Lib.itoa a).length + 1 := by omega
    have k2 : ¬ 9223372036854775807 < (Lib.itoa a).length + 1 + R.size := by omega
    have k3 : ¬ 9223372036854775807 < (Lib.itoa a).length + 1 + R.size + 1 := by omega
    have k4 : ¬ 9223372036854775807 < (Lib.itoa a).length + 1 + R.size + 1 + (Lib.itoa p).length := by omega
    have k5 : ¬ 9223372036854775807 < (Lib.itoa a).length + 1 + R.size + 1 + (Lib.itoa p).length + 1 := by omega
    have k6 : ¬ 9223372036854775807 < (Lib.itoa a).length + 1 + R.size + 1 + (Lib.itoa p).length + 1 + (Lib.itoa q).length := by omega
    clear hR hRd
    go_region_held3 (fun w' => w'.cell? ⟨w.heap.size, 0, none⟩ = some (.int .i64 a) ∧ w'.cell? ⟨w.heap.size, 2, none⟩ = some (.int .i64 p) ∧ w'.cell? ⟨w.heap.size, 3, none⟩ = some (.int .i64 q))
      (first | (with_reducible exact HBX.out _ HB.out) | exact ⟨‹_›, ‹_›, ‹_›⟩)
      (first | (go_at_call 80; refine (HI1.out _ _ (by omega) (by omega) (by first | exact HB.out.drew | exact HB.out)).mono ?_; rintro e w3 ⟨rfl, hb3⟩; replace HB := hid (Below.trans (by first | exact HB.out.drew | exact HB.out) (hb3.mono HB.out.size)); clear hb3))
    all_goals
      go_wp2_with fail
      exact text_ret rfl rfl HRD.out (HB1.out.trans (HB.out.mono HB1.out.size))
end Go.Proofs.YthdmgighblhmhaaGreatDoor

/- Package trace: the contract of Print, for every list of events. Conditions: the library's table of powers, which the row lists. -/
namespace Go.Proofs.YthdmgighblhmhaaGreatDoor
open Go.RowKit
set_option maxRecDepth 100000

def TPrinted (w : World) (l : List Ev) (e : Ending) (w' : World) : Prop := e = .returned (.tuple #[txt (if evsChk l = 0 then evsText l else []), errV (evsChk l)]) ∧ Below w.heap.size w w'
theorem evs_next {l : List Ev} {k : Nat} {x : Ev} (h : l[k]? = some x) : evsText (l.take (k + 1)) = evsText (l.take k) ++ evText x := by
  obtain ⟨h1, h2⟩ := List.getElem?_eq_some_iff.1 h
  unfold evsText
  rw [List.take_succ_eq_append_getElem h1, List.flatMap_append, h2]; simp

end Go.Proofs.YthdmgighblhmhaaGreatDoor

/- Package trace: the contract of Counts, for every list of events that is right. Conditions: none. -/
namespace Go.Proofs.YthdmgighblhmhaaGreatDoor
open Go.RowKit
set_option maxRecDepth 100000

theorem made_six : madeCells (Value.int .i64 0).cells (6 * 1) = #[.int .i64 0, .int .i64 0, .int .i64 0, .int .i64 0, .int .i64 0, .int .i64 0] := by kernel_rfl
theorem run_makeSix (w : World) : (Instr.makeSlice 63 (.int .i64 6) (.int .i64 6)).run Tryz.prog w = .ok (.slice (some ⟨w.heap.size, 0, none⟩) 6 6) (w.alloc (.cells #[.int .i64 0, .int .i64 0, .int .i64 0, .int .i64 0, .int .i64 0, .int .i64 0] 3)) := by
  obtain ⟨i0, hi, hz0, hz1, hz2⟩ := info_parts Tryz.infoInt
  have := run_make (P := Tryz.prog) w 63 3 i0 _ Tryz.underlying63 hi hz0 .i64 .i64 6 6 (by omega) (by omega) (by rw [hz2]; omega) (by omega)
  rw [this, hz1, show (6 : Int).toNat = 6 from rfl, made_six]
/-- Six numbers as they lie. -/
def sixC (f : Nat → Nat) : Array Value := #[.int .i64 (f 0), .int .i64 (f 1), .int .i64 (f 2), .int .i64 (f 3), .int .i64 (f 4), .int .i64 (f 5)]
def kindsOf (l : List Ev) (i : Nat) : Nat := cntF Ev.what l i
theorem kinds_snoc (l : List Ev) (x : Ev) (i : Nat) : kindsOf (l ++ [x]) i = kindsOf l i + if x.what = i then 1 else 0 := by
  unfold kindsOf cntF
  rw [List.filter_append, List.length_append]
  by_cases h : x.what = i <;> simp [h]

end Go.Proofs.YthdmgighblhmhaaGreatDoor
