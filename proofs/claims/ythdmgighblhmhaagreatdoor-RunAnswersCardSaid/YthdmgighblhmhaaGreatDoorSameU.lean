/- Several parts: each begins with what it says. -/
import Derived.Test.YthdmgighblhmhaaGreatDoorLineU
import Derived.Test.YthdmgighblhmhaaGreatDoorRoomW
import Derived.Laws.StructEq
import Derived.Test.YthdmgighblhmhaaGreatDoorKLawU
/- framesame.Ints and Lists: of two lists that are the same they say so. -/
namespace Go.Proofs.YthdmgighblhmhaaGreatDoor
open Go.RowKit
set_option maxRecDepth 100000

/-- A call that only reads. -/
def Read (w : World) (v : Value) (e : Ending) (w' : World) : Prop := e = .returned v ∧ ∃ m, w' = w.drewN m
theorem Read.below {w w' : World} {v : Value} {e : Ending} (h : Read w v e w') : e = .returned v ∧ Below w.heap.size w w' := by
  obtain ⟨h1, m, rfl⟩ := h; exact ⟨h1, ⟨rfl, rfl, rfl, Nat.le_refl _, fun _ _ => rfl⟩⟩

end Go.Proofs.YthdmgighblhmhaaGreatDoor

/- States compared: what '==' and '!=' say of two of them, by the model's own road. -/
namespace Go.Proofs.YthdmgighblhmhaaGreatDoor
open Go.RowKit
set_option maxRecDepth 100000

theorem all_range_ints : ∀ (xs ys : List Int), xs.length = ys.length → ((List.range xs.length).all fun i => xs.getD i 0 == ys.getD i 0) = (xs == ys)
  | [], [], _ => rfl
  | x :: xs, y :: ys, h => by
    have ih := all_range_ints xs ys (by simpa using h)
    rw [List.length_cons, List.range_succ_eq_map, List.all_cons, List.all_map]
    simp only [List.getD_cons_zero, Function.comp_def, List.getD_cons_succ, ih]
    simp [List.cons_beq_cons]
  | [], _ :: _, h => by simp at h
  | _ :: _, [], h => by simp at h
theorem run_equalIn_ints {P : Program} (w : World) (d : Nat) (t e : TypeId) (n : Nat) (ht : P.underlying t = some (.array n e)) (he : P.underlying e = some (.int .i64)) (hsz : ∀ w, (sizeOf e).run P w = .ok 1 w)
    (xs ys : List Int) (hx : xs.length = n) (hy : ys.length = n) :
    (Op.equalIn (d + 2) t (.agg (ints xs).toArray) (.agg (ints ys).toArray)).run P w = .ok (xs == ys) w := by
  rw [← all_range_ints xs ys (hx.trans hy.symm), hx, List.range_eq_range', Op.equalIn]
  simp only [Sem.run_bind, run_underlying ht, Result.andThen_ok, hsz, Std.Legacy.Range.forIn_eq_forIn_range', Std.Legacy.Range.size, Nat.sub_zero, Nat.add_sub_cancel, Nat.div_one]
  have hl : ∀ i ∈ List.range' 0 n 1, i < n := fun i hi => by simpa using (List.mem_range'_1.1 hi).2
  generalize List.range' 0 n 1 = l at hl ⊢
  induction l with
  | nil => simp
  | cons i l ih =>
    have hi : i < n := hl i (by simp)
    have px : (part e (ints xs).toArray (i * 1)).run P w = .ok (.int .i64 (xs.getD i 0)) w := by
      simp [part, isAgg, run_underlying he, List.getD, ints, List.getElem?_eq_getElem (show i < xs.length by omega)]
    have py : (part e (ints ys).toArray (i * 1)).run P w = .ok (.int .i64 (ys.getD i 0)) w := by
      simp [part, isAgg, run_underlying he, List.getD, ints, List.getElem?_eq_getElem (show i < ys.length by omega)]
    have pe : (Op.equalIn (d + 1) e (.int .i64 (xs.getD i 0)) (.int .i64 (ys.getD i 0))).run P w = .ok (xs.getD i 0 == ys.getD i 0) w := by
      rw [run_equalIn_int w d e .i64 .i64 _ _ he]
    simp only [List.forIn_cons, Sem.run_bind, px, py, pe, Result.andThen_ok, List.all_cons]
    cases hb : (xs.getD i 0 == ys.getD i 0)
    · simp
    · simp only [Bool.not_true, Bool.false_eq_true, if_false, Sem.run_pure, Result.andThen_ok, Bool.true_and]
      exact ih fun j hj => hl j (by simp [hj])

def stEq (s t : St) : Bool := s.pc == t.pc && (s.nums == t.nums && s.failed == t.failed)
theorem stEq_iff {s t : St} : stEq s t = true ↔ s = t := by
  cases s; cases t
  simp [stEq, St.nums, and_assoc]
theorem stEq_refl (s : St) : stEq s s = true := stEq_iff.2 rfl
theorem stEq_ne {s t : St} (h : s ≠ t) : stEq s t = false := by cases hb : stEq s t with | false => rfl | true => exact absurd (stEq_iff.1 hb) h

theorem state_eqIn (s t : St) (w : World) : (Op.equalIn 10000 81 (.agg #[.int .i64 s.pc, .int .i64 s.c0, .int .i64 s.c1, .int .i64 s.c2, .int .i64 s.c3, .int .i64 s.c4, .int .i64 s.c5, .bool s.failed]) (.agg #[.int .i64 t.pc, .int .i64 t.c0, .int .i64 t.c1, .int .i64 t.c2, .int .i64 t.c3, .int .i64 t.c4, .int .i64 t.c5, .bool t.failed])).run Tryz.prog w = .ok (stEq s t) w := by
  have hf : ∃ a b c : Field, (a.name = "At" ∧ a.type = 3 ∧ a.offset = 0) ∧ (b.name = "Cells" ∧ b.type = 79 ∧ b.offset = 1) ∧ (c.name = "Failed" ∧ c.type = 4 ∧ c.offset = 7) ∧ (Tryz.prog.fieldsOf 81).toList = [a, b, c] :=
    ⟨(Tryz.prog.fieldsOf 81)[0]!, (Tryz.prog.fieldsOf 81)[1]!, (Tryz.prog.fieldsOf 81)[2]!, ⟨by kernel_rfl, by kernel_rfl, by kernel_rfl⟩, ⟨by kernel_rfl, by kernel_rfl, by kernel_rfl⟩, ⟨by kernel_rfl, by kernel_rfl, by kernel_rfl⟩, by kernel_rfl⟩
  obtain ⟨a, b, c, ⟨a1, a2, a3⟩, ⟨b1, b2, b3⟩, ⟨c1, c2, c3⟩, hf⟩ := hf
  rw [run_equalIn_struct w 9999 81 _ _ (by kernel_rfl) (by kernel_rfl), hf]
  have p0 : ∀ (s : St) w, (part 3 #[.int .i64 s.pc, .int .i64 s.c0, .int .i64 s.c1, .int .i64 s.c2, .int .i64 s.c3, .int .i64 s.c4, .int .i64 s.c5, .bool s.failed] 0).run Tryz.prog w = .ok (.int .i64 s.pc) w := fun s w => by kernel_rfl
  have p1 : ∀ (s : St) w, (part 79 #[.int .i64 s.pc, .int .i64 s.c0, .int .i64 s.c1, .int .i64 s.c2, .int .i64 s.c3, .int .i64 s.c4, .int .i64 s.c5, .bool s.failed] 1).run Tryz.prog w = .ok (.agg (ints s.nums).toArray) w := fun s w => by kernel_rfl
  have p2 : ∀ (s : St) w, (part 4 #[.int .i64 s.pc, .int .i64 s.c0, .int .i64 s.c1, .int .i64 s.c2, .int .i64 s.c3, .int .i64 s.c4, .int .i64 s.c5, .bool s.failed] 7).run Tryz.prog w = .ok (.bool s.failed) w := fun s w => by kernel_rfl
  have e0 : ∀ (a b : Int) w, (Op.equalIn 9999 3 (.int .i64 a) (.int .i64 b)).run Tryz.prog w = .ok (a == b) w := fun a b w => run_equalIn_int w 9998 _ .i64 .i64 a b Tryz.underlying3
  have e1 : ∀ (s t : St) w, (Op.equalIn 9999 79 (.agg (ints s.nums).toArray) (.agg (ints t.nums).toArray)).run Tryz.prog w = .ok (s.nums == t.nums) w := fun s t w => run_equalIn_ints w 9997 _ 3 6 Tryz.underlying79 Tryz.underlying3 (fun w => by kernel_rfl) s.nums t.nums rfl rfl
  have e2 : ∀ (a b : Bool) w, (Op.equalIn 9999 4 (.bool a) (.bool b)).run Tryz.prog w = .ok (a == b) w := fun a b w => run_equalIn_bool w 9998 _ a b Tryz.underlying4
  have n0 : a.name ≠ "_" := by rw [a1]; decide
  have n1 : b.name ≠ "_" := by rw [b1]; decide
  have n2 : c.name ≠ "_" := by rw [c1]; decide
  simp only [Op.eqFields, if_pos n0, if_pos n1, if_pos n2, a2, a3, b2, b3, c2, c3, Sem.run_bind, p0, p1, p2, e0, e1, e2, Result.andThen_ok, Sem.run_ite, Sem.run_pure]
  unfold stEq
  cases s.pc == t.pc <;> cases s.nums == t.nums <;> cases s.failed == t.failed <;> rfl
theorem state_eql (s t : St) (w : World) : (binOp .eql 81 (.agg #[.int .i64 s.pc, .int .i64 s.c0, .int .i64 s.c1, .int .i64 s.c2, .int .i64 s.c3, .int .i64 s.c4, .int .i64 s.c5, .bool s.failed]) (.agg #[.int .i64 t.pc, .int .i64 t.c0, .int .i64 t.c1, .int .i64 t.c2, .int .i64 t.c3, .int .i64 t.c4, .int .i64 t.c5, .bool t.failed])).run Tryz.prog w = .ok (.bool (stEq s t)) w := by
  rw [run_eql_struct, state_eqIn]; rfl
theorem state_neq (s t : St) (w : World) : (binOp .neq 81 (.agg #[.int .i64 s.pc, .int .i64 s.c0, .int .i64 s.c1, .int .i64 s.c2, .int .i64 s.c3, .int .i64 s.c4, .int .i64 s.c5, .bool s.failed]) (.agg #[.int .i64 t.pc, .int .i64 t.c0, .int .i64 t.c1, .int .i64 t.c2, .int .i64 t.c3, .int .i64 t.c4, .int .i64 t.c5, .bool t.failed])).run Tryz.prog w = .ok (.bool (!stEq s t)) w := by
  rw [run_neq_struct, state_eqIn]; rfl
theorem state_guard : Tryz.prog.eqGuardType Tryz.prog.depth 81 = false := by kernel_rfl
end Go.Proofs.YthdmgighblhmhaaGreatDoor

/- Structs of ints compared: what '==' and '!=' say of two of them, by the model's own road. -/
namespace Go.Proofs.YthdmgighblhmhaaGreatDoor
open Go.RowKit
set_option maxRecDepth 100000

theorem op_eqIn (s t : Op) (w : World) : (Op.equalIn 10000 72 (.agg #[.int .i64 s.what, .int .i64 s.a, .int .i64 s.b]) (.agg #[.int .i64 t.what, .int .i64 t.a, .int .i64 t.b])).run Tryz.prog w = .ok (s.what == t.what && (s.a == t.a && (s.b == t.b))) w := by
  have hf : ∃ a b c : Field, (a.name = "What" ∧ a.type = 3 ∧ a.offset = 0) ∧ (b.name = "A" ∧ b.type = 3 ∧ b.offset = 1) ∧ (c.name = "B" ∧ c.type = 3 ∧ c.offset = 2) ∧ (Tryz.prog.fieldsOf 72).toList = [a, b, c] :=
    ⟨(Tryz.prog.fieldsOf 72)[0]!, (Tryz.prog.fieldsOf 72)[1]!, (Tryz.prog.fieldsOf 72)[2]!, ⟨by kernel_rfl, by kernel_rfl, by kernel_rfl⟩, ⟨by kernel_rfl, by kernel_rfl, by kernel_rfl⟩, ⟨by kernel_rfl, by kernel_rfl, by kernel_rfl⟩, by kernel_rfl⟩
  obtain ⟨a, b, c, ⟨a1, a2, a3⟩, ⟨b1, b2, b3⟩, ⟨c1, c2, c3⟩, hf⟩ := hf
  rw [run_equalIn_struct w 9999 72 _ _ (by kernel_rfl) (by kernel_rfl), hf]
  have p0 : ∀ (s : Op) w, (part 3 #[.int .i64 s.what, .int .i64 s.a, .int .i64 s.b] 0).run Tryz.prog w = .ok (.int .i64 s.what) w := fun s w => by kernel_rfl
  have p1 : ∀ (s : Op) w, (part 3 #[.int .i64 s.what, .int .i64 s.a, .int .i64 s.b] 1).run Tryz.prog w = .ok (.int .i64 s.a) w := fun s w => by kernel_rfl
  have p2 : ∀ (s : Op) w, (part 3 #[.int .i64 s.what, .int .i64 s.a, .int .i64 s.b] 2).run Tryz.prog w = .ok (.int .i64 s.b) w := fun s w => by kernel_rfl
  have e0 : ∀ (a b : Int) w, (Op.equalIn 9999 3 (.int .i64 a) (.int .i64 b)).run Tryz.prog w = .ok (a == b) w := fun a b w => run_equalIn_int w 9998 _ .i64 .i64 a b Tryz.underlying3
  have n0 : a.name ≠ "_" := by rw [a1]; decide
  have n1 : b.name ≠ "_" := by rw [b1]; decide
  have n2 : c.name ≠ "_" := by rw [c1]; decide
  simp only [Op.eqFields, if_pos n0, if_pos n1, if_pos n2, a2, b2, c2, a3, b3, c3, Sem.run_bind, p0, p1, p2, e0, Result.andThen_ok, Sem.run_ite, Sem.run_pure]
  cases s.what == t.what <;> cases s.a == t.a <;> cases s.b == t.b <;> rfl
theorem op_neq (s : Op) (w : World) : (binOp .neq 72 (.agg #[.int .i64 s.what, .int .i64 s.a, .int .i64 s.b]) (.agg #[.int .i64 s.what, .int .i64 s.a, .int .i64 s.b])).run Tryz.prog w = .ok (.bool false) w := by
  rw [run_neq_struct, op_eqIn]; simp
theorem op_eql (s : Op) (w : World) : (binOp .eql 72 (.agg #[.int .i64 s.what, .int .i64 s.a, .int .i64 s.b]) (.agg #[.int .i64 s.what, .int .i64 s.a, .int .i64 s.b])).run Tryz.prog w = .ok (.bool true) w := by
  rw [run_eql_struct, op_eqIn]; simp
theorem op_guard : Tryz.prog.eqGuardType Tryz.prog.depth 72 = false := by kernel_rfl
theorem span_eqIn (s t : Span) (w : World) : (Op.equalIn 10000 69 (.agg #[.int .i64 s.fr, .int .i64 s.to, .int .i64 s.room]) (.agg #[.int .i64 t.fr, .int .i64 t.to, .int .i64 t.room])).run Tryz.prog w = .ok (s.fr == t.fr && (s.to == t.to && (s.room == t.room))) w := by
  have hf : ∃ a b c : Field, (a.name = "From" ∧ a.type = 3 ∧ a.offset = 0) ∧ (b.name = "To" ∧ b.type = 3 ∧ b.offset = 1) ∧ (c.name = "Room" ∧ c.type = 3 ∧ c.offset = 2) ∧ (Tryz.prog.fieldsOf 69).toList = [a, b, c] :=
    ⟨(Tryz.prog.fieldsOf 69)[0]!, (Tryz.prog.fieldsOf 69)[1]!, (Tryz.prog.fieldsOf 69)[2]!, ⟨by kernel_rfl, by kernel_rfl, by kernel_rfl⟩, ⟨by kernel_rfl, by kernel_rfl, by kernel_rfl⟩, ⟨by kernel_rfl, by kernel_rfl, by kernel_rfl⟩, by kernel_rfl⟩
  obtain ⟨a, b, c, ⟨a1, a2, a3⟩, ⟨b1, b2, b3⟩, ⟨c1, c2, c3⟩, hf⟩ := hf
  rw [run_equalIn_struct w 9999 69 _ _ (by kernel_rfl) (by kernel_rfl), hf]
  have p0 : ∀ (s : Span) w, (part 3 #[.int .i64 s.fr, .int .i64 s.to, .int .i64 s.room] 0).run Tryz.prog w = .ok (.int .i64 s.fr) w := fun s w => by kernel_rfl
  have p1 : ∀ (s : Span) w, (part 3 #[.int .i64 s.fr, .int .i64 s.to, .int .i64 s.room] 1).run Tryz.prog w = .ok (.int .i64 s.to) w := fun s w => by kernel_rfl
  have p2 : ∀ (s : Span) w, (part 3 #[.int .i64 s.fr, .int .i64 s.to, .int .i64 s.room] 2).run Tryz.prog w = .ok (.int .i64 s.room) w := fun s w => by kernel_rfl
  have e0 : ∀ (a b : Int) w, (Op.equalIn 9999 3 (.int .i64 a) (.int .i64 b)).run Tryz.prog w = .ok (a == b) w := fun a b w => run_equalIn_int w 9998 _ .i64 .i64 a b Tryz.underlying3
  have n0 : a.name ≠ "_" := by rw [a1]; decide
  have n1 : b.name ≠ "_" := by rw [b1]; decide
  have n2 : c.name ≠ "_" := by rw [c1]; decide
  simp only [Op.eqFields, if_pos n0, if_pos n1, if_pos n2, a2, b2, c2, a3, b3, c3, Sem.run_bind, p0, p1, p2, e0, Result.andThen_ok, Sem.run_ite, Sem.run_pure]
  cases s.fr == t.fr <;> cases s.to == t.to <;> cases s.room == t.room <;> rfl
theorem span_neq (s : Span) (w : World) : (binOp .neq 69 (.agg #[.int .i64 s.fr, .int .i64 s.to, .int .i64 s.room]) (.agg #[.int .i64 s.fr, .int .i64 s.to, .int .i64 s.room])).run Tryz.prog w = .ok (.bool false) w := by
  rw [run_neq_struct, span_eqIn]; simp
theorem span_eql (s : Span) (w : World) : (binOp .eql 69 (.agg #[.int .i64 s.fr, .int .i64 s.to, .int .i64 s.room]) (.agg #[.int .i64 s.fr, .int .i64 s.to, .int .i64 s.room])).run Tryz.prog w = .ok (.bool true) w := by
  rw [run_eql_struct, span_eqIn]; simp
theorem span_guard : Tryz.prog.eqGuardType Tryz.prog.depth 69 = false := by kernel_rfl
theorem wire_eqIn (s t : Wire) (w : World) : (Op.equalIn 10000 62 (.agg #[.int .i64 s.fr, .int .i64 s.to, .int .i64 s.kind, .int .i64 s.deep]) (.agg #[.int .i64 t.fr, .int .i64 t.to, .int .i64 t.kind, .int .i64 t.deep])).run Tryz.prog w = .ok (s.fr == t.fr && (s.to == t.to && (s.kind == t.kind && (s.deep == t.deep)))) w := by
  have hf : ∃ a b c d : Field, (a.name = "From" ∧ a.type = 3 ∧ a.offset = 0) ∧ (b.name = "To" ∧ b.type = 3 ∧ b.offset = 1) ∧ (c.name = "Kind" ∧ c.type = 3 ∧ c.offset = 2) ∧ (d.name = "Deep" ∧ d.type = 3 ∧ d.offset = 3) ∧ (Tryz.prog.fieldsOf 62).toList = [a, b, c, d] :=
    ⟨(Tryz.prog.fieldsOf 62)[0]!, (Tryz.prog.fieldsOf 62)[1]!, (Tryz.prog.fieldsOf 62)[2]!, (Tryz.prog.fieldsOf 62)[3]!, ⟨by kernel_rfl, by kernel_rfl, by kernel_rfl⟩, ⟨by kernel_rfl, by kernel_rfl, by kernel_rfl⟩, ⟨by kernel_rfl, by kernel_rfl, by kernel_rfl⟩, ⟨by kernel_rfl, by kernel_rfl, by kernel_rfl⟩, by kernel_rfl⟩
  obtain ⟨a, b, c, d, ⟨a1, a2, a3⟩, ⟨b1, b2, b3⟩, ⟨c1, c2, c3⟩, ⟨d1, d2, d3⟩, hf⟩ := hf
  rw [run_equalIn_struct w 9999 62 _ _ (by kernel_rfl) (by kernel_rfl), hf]
  have p0 : ∀ (s : Wire) w, (part 3 #[.int .i64 s.fr, .int .i64 s.to, .int .i64 s.kind, .int .i64 s.deep] 0).run Tryz.prog w = .ok (.int .i64 s.fr) w := fun s w => by kernel_rfl
  have p1 : ∀ (s : Wire) w, (part 3 #[.int .i64 s.fr, .int .i64 s.to, .int .i64 s.kind, .int .i64 s.deep] 1).run Tryz.prog w = .ok (.int .i64 s.to) w := fun s w => by kernel_rfl
  have p2 : ∀ (s : Wire) w, (part 3 #[.int .i64 s.fr, .int .i64 s.to, .int .i64 s.kind, .int .i64 s.deep] 2).run Tryz.prog w = .ok (.int .i64 s.kind) w := fun s w => by kernel_rfl
  have p3 : ∀ (s : Wire) w, (part 3 #[.int .i64 s.fr, .int .i64 s.to, .int .i64 s.kind, .int .i64 s.deep] 3).run Tryz.prog w = .ok (.int .i64 s.deep) w := fun s w => by kernel_rfl
  have e0 : ∀ (a b : Int) w, (Op.equalIn 9999 3 (.int .i64 a) (.int .i64 b)).run Tryz.prog w = .ok (a == b) w := fun a b w => run_equalIn_int w 9998 _ .i64 .i64 a b Tryz.underlying3
  have n0 : a.name ≠ "_" := by rw [a1]; decide
  have n1 : b.name ≠ "_" := by rw [b1]; decide
  have n2 : c.name ≠ "_" := by rw [c1]; decide
  have n3 : d.name ≠ "_" := by rw [d1]; decide
  simp only [Op.eqFields, if_pos n0, if_pos n1, if_pos n2, if_pos n3, a2, b2, c2, d2, a3, b3, c3, d3, Sem.run_bind, p0, p1, p2, p3, e0, Result.andThen_ok, Sem.run_ite, Sem.run_pure]
  cases s.fr == t.fr <;> cases s.to == t.to <;> cases s.kind == t.kind <;> cases s.deep == t.deep <;> rfl
theorem wire_neq (s : Wire) (w : World) : (binOp .neq 62 (.agg #[.int .i64 s.fr, .int .i64 s.to, .int .i64 s.kind, .int .i64 s.deep]) (.agg #[.int .i64 s.fr, .int .i64 s.to, .int .i64 s.kind, .int .i64 s.deep])).run Tryz.prog w = .ok (.bool false) w := by
  rw [run_neq_struct, wire_eqIn]; simp
theorem wire_eql (s : Wire) (w : World) : (binOp .eql 62 (.agg #[.int .i64 s.fr, .int .i64 s.to, .int .i64 s.kind, .int .i64 s.deep]) (.agg #[.int .i64 s.fr, .int .i64 s.to, .int .i64 s.kind, .int .i64 s.deep])).run Tryz.prog w = .ok (.bool true) w := by
  rw [run_eql_struct, wire_eqIn]; simp
theorem wire_guard : Tryz.prog.eqGuardType Tryz.prog.depth 62 = false := by kernel_rfl
theorem event_eqIn (s t : Ev) (w : World) : (Op.equalIn 10000 76 (.agg #[.int .i64 s.tick, .int .i64 s.room, .int .i64 s.pc, .int .i64 s.what]) (.agg #[.int .i64 t.tick, .int .i64 t.room, .int .i64 t.pc, .int .i64 t.what])).run Tryz.prog w = .ok (s.tick == t.tick && (s.room == t.room && (s.pc == t.pc && (s.what == t.what)))) w := by
  have hf : ∃ a b c d : Field, (a.name = "Tick" ∧ a.type = 3 ∧ a.offset = 0) ∧ (b.name = "Room" ∧ b.type = 3 ∧ b.offset = 1) ∧ (c.name = "At" ∧ c.type = 3 ∧ c.offset = 2) ∧ (d.name = "What" ∧ d.type = 3 ∧ d.offset = 3) ∧ (Tryz.prog.fieldsOf 76).toList = [a, b, c, d] :=
    ⟨(Tryz.prog.fieldsOf 76)[0]!, (Tryz.prog.fieldsOf 76)[1]!, (Tryz.prog.fieldsOf 76)[2]!, (Tryz.prog.fieldsOf 76)[3]!, ⟨by kernel_rfl, by kernel_rfl, by kernel_rfl⟩, ⟨by kernel_rfl, by kernel_rfl, by kernel_rfl⟩, ⟨by kernel_rfl, by kernel_rfl, by kernel_rfl⟩, ⟨by kernel_rfl, by kernel_rfl, by kernel_rfl⟩, by kernel_rfl⟩
  obtain ⟨a, b, c, d, ⟨a1, a2, a3⟩, ⟨b1, b2, b3⟩, ⟨c1, c2, c3⟩, ⟨d1, d2, d3⟩, hf⟩ := hf
  rw [run_equalIn_struct w 9999 76 _ _ (by kernel_rfl) (by kernel_rfl), hf]
  have p0 : ∀ (s : Ev) w, (part 3 #[.int .i64 s.tick, .int .i64 s.room, .int .i64 s.pc, .int .i64 s.what] 0).run Tryz.prog w = .ok (.int .i64 s.tick) w := fun s w => by kernel_rfl
  have p1 : ∀ (s : Ev) w, (part 3 #[.int .i64 s.tick, .int .i64 s.room, .int .i64 s.pc, .int .i64 s.what] 1).run Tryz.prog w = .ok (.int .i64 s.room) w := fun s w => by kernel_rfl
  have p2 : ∀ (s : Ev) w, (part 3 #[.int .i64 s.tick, .int .i64 s.room, .int .i64 s.pc, .int .i64 s.what] 2).run Tryz.prog w = .ok (.int .i64 s.pc) w := fun s w => by kernel_rfl
  have p3 : ∀ (s : Ev) w, (part 3 #[.int .i64 s.tick, .int .i64 s.room, .int .i64 s.pc, .int .i64 s.what] 3).run Tryz.prog w = .ok (.int .i64 s.what) w := fun s w => by kernel_rfl
  have e0 : ∀ (a b : Int) w, (Op.equalIn 9999 3 (.int .i64 a) (.int .i64 b)).run Tryz.prog w = .ok (a == b) w := fun a b w => run_equalIn_int w 9998 _ .i64 .i64 a b Tryz.underlying3
  have n0 : a.name ≠ "_" := by rw [a1]; decide
  have n1 : b.name ≠ "_" := by rw [b1]; decide
  have n2 : c.name ≠ "_" := by rw [c1]; decide
  have n3 : d.name ≠ "_" := by rw [d1]; decide
  simp only [Op.eqFields, if_pos n0, if_pos n1, if_pos n2, if_pos n3, a2, b2, c2, d2, a3, b3, c3, d3, Sem.run_bind, p0, p1, p2, p3, e0, Result.andThen_ok, Sem.run_ite, Sem.run_pure]
  cases s.tick == t.tick <;> cases s.room == t.room <;> cases s.pc == t.pc <;> cases s.what == t.what <;> rfl
theorem event_neq (s : Ev) (w : World) : (binOp .neq 76 (.agg #[.int .i64 s.tick, .int .i64 s.room, .int .i64 s.pc, .int .i64 s.what]) (.agg #[.int .i64 s.tick, .int .i64 s.room, .int .i64 s.pc, .int .i64 s.what])).run Tryz.prog w = .ok (.bool false) w := by
  rw [run_neq_struct, event_eqIn]; simp
theorem event_eql (s : Ev) (w : World) : (binOp .eql 76 (.agg #[.int .i64 s.tick, .int .i64 s.room, .int .i64 s.pc, .int .i64 s.what]) (.agg #[.int .i64 s.tick, .int .i64 s.room, .int .i64 s.pc, .int .i64 s.what])).run Tryz.prog w = .ok (.bool true) w := by
  rw [run_eql_struct, event_eqIn]; simp
theorem event_guard : Tryz.prog.eqGuardType Tryz.prog.depth 76 = false := by kernel_rfl
end Go.Proofs.YthdmgighblhmhaaGreatDoor

/- framesame.Ints, Held, Helds, States: of any two lists they say whether they are the same. -/
namespace Go.Proofs.YthdmgighblhmhaaGreatDoor
open Go.RowKit
set_option maxRecDepth 100000

theorem below_drawn {w a : World} {B : Nat} (h : Below B w a) (n : Nat) : Below B w (a.drewN n) := ⟨h.os, h.tape, h.output, h.size, h.block⟩
def eqB {α : Type} [DecidableEq α] (a b : α) : Bool := decide (a = b)
theorem eqB_true {α : Type} [DecidableEq α] {a b : α} (h : a = b) : eqB a b = true := decide_eq_true h
theorem eqB_false {α : Type} [DecidableEq α] {a b : α} (h : a ≠ b) : eqB a b = false := decide_eq_false h
/-- What is held as it lies. -/
structure Hm where
  A : Option Addr
  c : Nat
  items : List Int
  lost : Int
def Hm.cells (h : Hm) : List Value := [.slice h.A h.items.length h.c, .int .i64 h.lost]
theorem Hm.len (h : Hm) : h.cells.length = 2 := rfl
def Hm.val (h : Hm) : List Int × Int := (h.items, h.lost)
structure HmAt (w : World) (h : Hm) : Prop where
  sl : Sl w h.A 1 h.items.length (ints h.items)
  cap : h.items.length ≤ h.c
  few : h.items.length ≤ 1000
theorem HmAt.new {w w' : World} {h : Hm} (H : HmAt w h) (hb : Below w.heap.size w w') : HmAt w' h := ⟨H.sl.new hb, H.cap, H.few⟩
theorem HmAt.drew {w : World} {h : Hm} (H : HmAt w h) (d : Nat) : HmAt (w.drewN d) h := H.new ⟨rfl, rfl, rfl, Nat.le_refl _, fun _ _ => rfl⟩
end Go.Proofs.YthdmgighblhmhaaGreatDoor
