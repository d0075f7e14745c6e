/- Several parts: each begins with what it says. -/
import Derived.Test.YthdmgighblhmhaaGreatDoorWire
import Derived.Lib.OthersKept
import Derived.Lib.FrozenHead
import Derived.Lib.FrozenHead2
import Derived.Lib.UnsafeStr
import Derived.Shelf.Strings.BuilderK
import Derived.Test.YthdmgighblhmhaaGreatDoorDeskU
import Derived.Test.YthdmgighblhmhaaGreatDoorShelf
import Derived.Lib.ItoaLen
import Derived.Deep.DeepCutAuto
import Derived.Deep.CutBlock
/- The library's strings.Builder: contracts of copyCheck and WriteString, after the shelf's (whose structures do not fit this translation of copyCheck). Conditions: none. -/
namespace Go.Proofs.YthdmgighblhmhaaGreatDoor
open Go.RowKit
set_option maxRecDepth 100000

theorem Tryz.infoBuilder : (Tryz.prog.info? 48).map (·.size) = some 2 := by kernel_rfl
theorem Tryz.liesBuilder : liesAt Tryz.prog Tryz.prog.depth 48 (2 / Tryz.prog.cellsOf 48) 0 48 1 = true := by kernel_rfl
theorem Tryz.infoByte : (Tryz.prog.info? 5).map (fun i => (i.zero, i.size, i.bytes)) = some (some (.int .u8 0), 1, 1) := by kernel_rfl
set_option maxHeartbeats 1000000 in
theorem ccheck_used (b : Nat) (w : World) (h0 : w.cell? ⟨b, 0, none⟩ = some (.pointer (some ⟨b, 0, none⟩))) :
    Calls Tryz.prog 31 #[.pointer (some ⟨b, 0, none⟩)] w fun e w' => e = .returned (.tuple #[]) ∧ w' = w := by
  obtain ⟨j, hj, _⟩ := Option.map_eq_some_iff.1 Tryz.infoBuilder
  go_enter Tryz.func31, Tryz.ntmps31
  go_wp2
  rw [Lib.run_neq_ptr_same w _ Tryz.underlying45 hj]
  go_wp2
  go_end0
  exact ⟨rfl, rfl⟩
set_option maxHeartbeats 1000000 in
theorem ccheck_fresh (b : Nat) (w : World) (h0 : w.cell? ⟨b, 0, none⟩ = some (.pointer none)) (hsh : w.shape? b = some (48, 2)) (hfz : w.frozen? ⟨b, 0, none⟩ = false) :
    Calls Tryz.prog 31 #[.pointer (some ⟨b, 0, none⟩)] w fun e w' => e = .returned (.tuple #[]) ∧ w' = w.setCell ⟨b, 0, none⟩ (.pointer (some ⟨b, 0, none⟩)) := by
  obtain ⟨j, hj, hjs⟩ := Option.map_eq_some_iff.1 Tryz.infoBuilder
  go_enter Tryz.func31, Tryz.ntmps31
  go_wp2
  rw [Lib.run_to_unsafe w ⟨b, 0, none⟩ Tryz.underlying45 Tryz.underlying121 hj (by rw [hjs]; decide) hsh (Nat.zero_lt_succ 1)]
  simp only [Result.andThen]
  rw [Oper.upon_value]
  go_wp2
  rw [run_callFunc_extern Tryz.func52 (by kernel_rfl) (by kernel_rfl) (by kernel_rfl) (e := Extern.AbiNoEscape.same) (by kernel_rfl)]
  rw [Lib.run_noEscape]
  simp only [Result.andThen]
  rw [Oper.upon_value]
  go_wp2
  rw [Lib.run_from_unsafe w ⟨b, 0, none⟩ Tryz.underlying121 Tryz.underlying45 hj hsh Tryz.liesBuilder]
  simp only [Result.andThen]
  rw [Oper.upon_value]
  go_wp2
  go_end0
  exact ⟨rfl, rfl⟩
/-- A strings.Builder of the call's own in block b, that holds these bytes. -/
def Bld (B b : Nat) (l : List UInt8) (w : World) : Prop := Lib.IsBuilderF 48 5 B b (Lib.byteCells l) w
/-- What a call on it leaves. -/
structure Wrote (B b : Nat) (l : List UInt8) (w w' : World) : Prop where
  bld : Bld B b l w'
  below : Below B w w'
  others : Lib.OthersKept 5 (some b) w w'
theorem bld_fresh (w : World) : Bld w.heap.size w.heap.size [] (w.alloc (.cells #[.pointer none, .slice none 0 0] 48)) := Lib.IsBuilderF.of (Lib.fresh_isBuilder 48 5 w)
theorem ccheck_any (B b : Nat) (bs : List Value) (w : World) (h : Lib.IsBuilderF 48 5 B b bs w) :
    Calls Tryz.prog 31 #[.pointer (some ⟨b, 0, none⟩)] w fun e w' => e = .returned (.tuple #[]) ∧ (Lib.BuilderAtF 48 5 B b (.pointer (some ⟨b, 0, none⟩)) bs w' ∧ Below B w w' ∧ Lib.OthersKept 5 (some b) w w') := by
  rcases h with h | h
  · refine (ccheck_fresh b w h.cell0 h.shape h.frozen0).mono ?_
    rintro e w' ⟨rfl, rfl⟩
    exact ⟨rfl, h.used _, (Below.refl B w).setCell (p := ⟨b, 0, none⟩) h.1 _, (Lib.OthersKept.refl _ _ w).setCell ⟨b, 0, none⟩ rfl _⟩
  · refine (ccheck_used b w h.cell0).mono ?_
    rintro e w' ⟨rfl, rfl⟩
    exact ⟨rfl, h, Below.refl B _, Lib.OthersKept.refl _ _ _⟩
set_option maxHeartbeats 2000000 in
theorem write_any (B b : Nat) (l : List UInt8) (s : ByteArray) (w : World) (h : Bld B b l w) (hlen : l.length + s.size ≤ 140737488355328) (hBw : B ≤ w.heap.size) :
    Calls Tryz.prog 15 #[.pointer (some ⟨b, 0, none⟩), .string s] w fun e w' => e = .returned (.tuple #[.int .i64 s.size, .nilIface]) ∧ Wrote B b (l ++ s.data.toList) w w' := by
  obtain ⟨i0, hi, hz0, hz1, hz2⟩ := info_parts Tryz.infoByte
  have hbl := Lib.byteCells_length l
  go_enter Tryz.func15, Tryz.ntmps15
  go_wp2_with (go_at_call 31; refine (ccheck_any B b (Lib.byteCells l) _ h).mono ?_)
  rintro e w1 ⟨rfl, h1, hb1, hk1⟩
  obtain ⟨hB, v, hbk, hown, hne⟩ := h1
  have c0 : w1.cell? ⟨b, 0, none⟩ = some (.pointer (some ⟨b, 0, none⟩)) := by rw [Lib.cell_of_heap hbk]; rfl
  have c1 : w1.cell? ⟨b, 1, none⟩ = some v := by rw [Lib.cell_of_heap hbk]; rfl
  go_wp2_with (at_builtin; refine Lib.wpList_append_own_stringF _ rfl _ _ 46 9 rfl B 5 i0 Tryz.underlying46 Tryz.underlying9 hi hz0 hz1 hz2 _ _ _ rfl hown s rfl ?c3 ?c4 ?c5 ?_)
  case c3 => unfold maxLen; omega
  case c4 => omega
  case c5 => have := hb1.size; omega
  intro v' w2 hown' hgrow _
  have hlt : b < w1.heap.size := blk_lt hbk
  have hb2 : w2.heap[b]? = some (.cells #[.pointer (some ⟨b, 0, none⟩), v] 48 (0, 0)) := by
    rw [hgrow.block b hlt (fun e => hne e.symm)]
    exact hbk
  have d0 : w2.cell? ⟨b, 0, none⟩ = some (.pointer (some ⟨b, 0, none⟩)) := by rw [Lib.cell_of_heap hb2]; rfl
  have d1 : w2.cell? ⟨b, 1, none⟩ = some v := by rw [Lib.cell_of_heap hb2]; rfl
  have f1 : w2.frozen? ⟨b, 1, none⟩ = false := Lib.frozen_of_heap hb2 1
  obtain ⟨ao, n', cap, rfl⟩ : ∃ ao n' cap, v' = .slice ao n' cap := by
    rcases hown'.2 with ⟨hv, _⟩ | ⟨g, cap, cur, fz, hv, _⟩
    · exact ⟨_, _, _, hv⟩
    · exact ⟨_, _, _, hv⟩
  go_wp2
  go_ret2
  refine ⟨rfl, ⟨Or.inr ?_, ?_, (hk1.grown hgrow (Lib.ownsRowF_kind hown)).setCell ⟨b, 1, none⟩ rfl _⟩⟩
  · rw [Lib.byteCells_append]
    exact Lib.BuilderAtF.put (T := 48) (e := 5) hB hb2 (bs' := Lib.byteCells l ++ Lib.strCells s) (by simpa [Lib.strCells_length, hbl] using hown') (by decide)
  · exact (hb1.grown hgrow (by have := hb1.size; omega) (fun k hk => (hown.lt k hk).1)).setCell (p := ⟨b, 1, none⟩) hB _
end Go.Proofs.YthdmgighblhmhaaGreatDoor

/- Package code: contracts of fields and Print, for every code. Conditions: the table of forms, and the library's table of powers, which the row lists. -/
namespace Go.Proofs.YthdmgighblhmhaaGreatDoor
open Go.RowKit
set_option maxRecDepth 100000

theorem grow_below (w : World) (k : Nat) (os : Array Obj) : Below w.heap.size w (Sort.grow (w.drewN k) os) := by
  refine ⟨rfl, rfl, rfl, by simp [Sort.grow], fun i hi => ?_⟩
  show (w.heap ++ os)[i]? = _
  rw [Array.getElem?_append_left hi]
/-- strconv.Itoa, in the walk's words. -/
theorem itoa_any (n : Int) (h0 : -9223372036854775808 ≤ n) (h1 : n ≤ 9223372036854775807) (w : World) (hp : Pows w) :
    Calls Tryz.prog 80 #[.int .i64 n] w fun e w' => e = .returned (txt (Lib.itoa n)) ∧ Below w.heap.size w w' :=
  (Tryz.strconv_Itoa n h0 h1 w hp).mono fun e w' ⟨he, k, os, hw⟩ => ⟨he, by rw [hw]; exact grow_below w k os⟩
/-- Pointers to those fields of an op in block k that stand in its line. -/
def ptrsOf (i k : Nat) : List Value := (if formA i then [.pointer (some ⟨k, 1, none⟩)] else []) ++ (if formB i then [.pointer (some ⟨k, 2, none⟩)] else [])
/-! Print -/
theorem Bld.new {B b : Nat} {l : List UInt8} {w w' : World} (h : Bld B b l w) (hb : Below w.heap.size w w') : Bld B b l w' := by
  have go : ∀ p, Lib.BuilderAtF 48 5 B b p (Lib.byteCells l) w → Lib.BuilderAtF 48 5 B b p (Lib.byteCells l) w' := fun p h => by
    have hlt := h.lt
    obtain ⟨hB, v, hv, hown, hne⟩ := h
    exact ⟨hB, v, (hb.block b hlt).trans hv, hown.kept (row := none) ⟨hb.os, hb.tape, hb.output, hb.size, fun k hk _ => hb.block k hk⟩ (by cases hv' : v.ownBlock <;> simp), hne⟩
  exact h.elim (fun x => .inl (go _ x)) (fun x => .inr (go _ x))
theorem Bld.alloc {B b : Nat} {l : List UInt8} {w : World} (h : Bld B b l w) (o : Obj) : Bld B b l (w.alloc o) := Lib.IsBuilderF.alloc h o
theorem Bld.blk {B b : Nat} {l : List UInt8} {w : World} (h : Bld B b l w) : ∃ cs, w.heap[b]? = some (.cells cs 48 (0, 0)) := by
  rcases h with ⟨_, v, h, _⟩ | ⟨_, v, h, _⟩ <;> exact ⟨_, h⟩
theorem Wrote.blk {B b : Nat} {l : List UInt8} {w w' : World} (h : Wrote B b l w w') {k T : Nat} {cs : Array Value} {fz : Nat × Nat} (hk : w.heap[k]? = some (.cells cs T fz)) (hT : T ≠ 5) (hkb : k ≠ b) : w'.heap[k]? = some (.cells cs T fz) :=
  h.others k _ hk (fun e => hkb (Option.some.inj e)) (fun c f e => by cases e; exact hT rfl)
theorem Wrote.row {B b : Nat} {l l0 : List UInt8} {w w' : World} (h : Wrote B b l w w') (h0 : Bld B b l0 w) {e sz n cap : Nat} {A : Option Addr} {xs : List Value} (hr : Row w e sz A n cap xs) (he : e ≠ 5) (hb : e ≠ 48) : Row w' e sz A n cap xs := by
  refine hr.keep fun k hk hl => ?_
  rcases hr.2 with ⟨rfl, _⟩ | ⟨g, off, cur, rfl, hg, _⟩
  · simp [InA] at hk
  · simp [InA] at hk
    subst hk
    obtain ⟨cs, hcs⟩ := h0.blk
    have hne : g ≠ b := fun e1 => by rw [e1, hcs] at hg; cases hg; exact hb rfl
    rw [h.blk hg he hne, hg]
theorem name_len : ∀ k, (nameOf k).length ≤ 4 := by
  intro k; unfold nameOf; split <;> decide
theorem numT_len {n : Int} (h0 : 0 ≤ n) (h1 : n < 1000) : (numT n).length ≤ 22 := by
  have := Lib.itoa_length_le n (by omega) (by omega)
  unfold numT; simp; omega
theorem nums_len : ∀ (l : List Int), (∀ n ∈ l, 0 ≤ n ∧ n < 1000) → (l.flatMap numT).length ≤ 22 * l.length
  | [], _ => by simp
  | n :: l, h => by
    have h1 := numT_len (h n (by simp)).1 (h n (by simp)).2
    have h2 := nums_len l (fun m hm => h m (by simp [hm]))
    rw [List.flatMap_cons, List.length_append, List.length_cons]; omega
theorem fields_few (o : Op) : (fieldsOf o).length ≤ 2 := by
  unfold fieldsOf; split <;> split <;> simp
theorem fields_of_ok {o : Op} {m : Int} (h : opOk o m = true) (hm : m ≤ 20) : ∀ n ∈ fieldsOf o, 0 ≤ n ∧ n < 1000 := by
  have h1 := of_decide_eq_true h
  have hb : bBound o.what m ≤ 1000 := by unfold bBound; split <;> (try split) <;> (try split) <;> (try split) <;> omega
  have ha : aBound o.what ≤ 6 := by unfold aBound; split <;> omega
  intro n hn
  unfold fieldsOf at hn
  rw [List.mem_append] at hn
  rcases hn with hn | hn <;> split at hn <;> simp at hn <;> omega
theorem opText_len {o : Op} {m : Int} (h : opOk o m = true) (hm : m ≤ 20) : (opText o).length ≤ 49 := by
  have h1 := name_len o.what.toNat
  have h2 := nums_len _ (fields_of_ok h hm)
  have h3 := fields_few o
  unfold opText opLine
  simp only [List.length_append, List.length_singleton]; omega
theorem codeText_len : ∀ (l : List Op) (m : Int), (∀ o ∈ l, opOk o m = true) → m ≤ 20 → (codeText l).length ≤ 49 * l.length
  | [], _, _, _ => by simp [codeText]
  | o :: l, m, h, hm => by
    have h1 := opText_len (h o (by simp)) hm
    have h2 := codeText_len l m (fun x hx => h x (by simp [hx])) hm
    unfold codeText at h2 ⊢
    rw [List.flatMap_cons, List.length_append, List.length_cons]; omega
theorem codeText_next {l : List Op} {k : Nat} {o : Op} (h : l[k]? = some o) : codeText (l.take (k + 1)) = codeText (l.take k) ++ opText o := by
  obtain ⟨hk, e⟩ := List.getElem?_eq_some_iff.1 h
  unfold codeText
  rw [List.take_succ_eq_append_getElem hk, List.flatMap_append, e]; simp
/-- What a pointer to a field of an op leads to. -/
theorem ptr_field (i : Nat) (a b : Int) (ob j : Nat) (hj : j < (ptrsOf i ob).length) : ∃ d n, (ptrsOf i ob)[j]? = some (.pointer (some ⟨ob, d, none⟩)) ∧ (#[Value.int .i64 i, .int .i64 a, .int .i64 b] : Array Value)[d]? = some (.int .i64 n) ∧ (fieldsOf ⟨i, a, b⟩)[j]? = some n := by
  unfold ptrsOf fieldsOf at *
  simp only [Int.toNat_natCast]
  cases hA : formA i <;> cases hB : formB i <;> rw [hA, hB] at hj <;> simp at hj
  · obtain rfl : j = 0 := by omega
    exact ⟨2, b, rfl, rfl, rfl⟩
  · obtain rfl : j = 0 := by omega
    exact ⟨1, a, rfl, rfl, rfl⟩
  · rcases (show j = 0 ∨ j = 1 by omega) with rfl | rfl
    · exact ⟨1, a, rfl, rfl, rfl⟩
    · exact ⟨2, b, rfl, rfl, rfl⟩
theorem ptrs_len (i ob : Nat) (a b : Int) : (ptrsOf i ob).length = (fieldsOf ⟨i, a, b⟩).length := by
  unfold ptrsOf fieldsOf
  simp only [Int.toNat_natCast]
  cases formA i <;> cases formB i <;> rfl
/-- What Print tells. -/
def Printed (w : World) (l : List Op) (e : Ending) (w' : World) : Prop := e = .returned (.tuple #[txt (if (codeChk l).2 = 0 then codeText l else []), errV (codeChk l).2]) ∧ Below w.heap.size w w'

end Go.Proofs.YthdmgighblhmhaaGreatDoor
