/- States compared: what '==' and '!=' say of two of them, by the model's own road. -/
import Derived.Test.YtnighanlonkjbaaDoorRoomW
import Derived.Laws.StructEq
namespace Go.Proofs.YtnighanlonkjbaaDoor
open Go.RowKit
set_option maxRecDepth 100000

theorem all_range_ints : ∀ (xs ys : List Int), xs.length = ys.length → ((List.range xs.length).all fun i => xs.getD i 0 == ys.getD i 0) = (xs == ys)
  | [], [], _ => rfl
  | x :: xs, y :: ys, h => by
    have ih := all_range_ints xs ys (by simpa using h)
    rw [List.length_cons, List.range_succ_eq_map, List.all_cons, List.all_map]
    simp only [List.getD_cons_zero, Function.comp_def, List.getD_cons_succ, ih]
    simp [List.cons_beq_cons]
  | [], _ :: _, h => by simp at h
  | _ :: _, [], h => by simp at h
theorem run_equalIn_ints {P : Program} (w : World) (d : Nat) (t e : TypeId) (n : Nat) (ht : P.underlying t = some (.array n e)) (he : P.underlying e = some (.int .i64)) (hsz : ∀ w, (sizeOf e).run P w = .ok 1 w)
    (xs ys : List Int) (hx : xs.length = n) (hy : ys.length = n) :
    (Op.equalIn (d + 2) t (.agg (ints xs).toArray) (.agg (ints ys).toArray)).run P w = .ok (xs == ys) w := by
  rw [← all_range_ints xs ys (hx.trans hy.symm), hx, List.range_eq_range', Op.equalIn]
  simp only [Sem.run_bind, run_underlying ht, Result.andThen_ok, hsz, Std.Legacy.Range.forIn_eq_forIn_range', Std.Legacy.Range.size, Nat.sub_zero, Nat.add_sub_cancel, Nat.div_one]
  have hl : ∀ i ∈ List.range' 0 n 1, i < n := fun i hi => by simpa using (List.mem_range'_1.1 hi).2
  generalize List.range' 0 n 1 = l at hl ⊢
  induction l with
  | nil => simp
  | cons i l ih =>
    have hi : i < n := hl i (by simp)
    have px : (part e (ints xs).toArray (i * 1)).run P w = .ok (.int .i64 (xs.getD i 0)) w := by
      simp [part, isAgg, run_underlying he, List.getD, ints, List.getElem?_eq_getElem (show i < xs.length by omega)]
    have py : (part e (ints ys).toArray (i * 1)).run P w = .ok (.int .i64 (ys.getD i 0)) w := by
      simp [part, isAgg, run_underlying he, List.getD, ints, List.getElem?_eq_getElem (show i < ys.length by omega)]
    have pe : (Op.equalIn (d + 1) e (.int .i64 (xs.getD i 0)) (.int .i64 (ys.getD i 0))).run P w = .ok (xs.getD i 0 == ys.getD i 0) w := by
      rw [run_equalIn_int w d e .i64 .i64 _ _ he]
    simp only [List.forIn_cons, Sem.run_bind, px, py, pe, Result.andThen_ok, List.all_cons]
    cases hb : (xs.getD i 0 == ys.getD i 0)
    · simp
    · simp only [Bool.not_true, Bool.false_eq_true, if_false, Sem.run_pure, Result.andThen_ok, Bool.true_and]
      exact ih fun j hj => hl j (by simp [hj])

def stEq (s t : St) : Bool := s.pc == t.pc && (s.nums == t.nums && s.failed == t.failed)
theorem stEq_iff {s t : St} : stEq s t = true ↔ s = t := by
  cases s; cases t
  simp [stEq, St.nums, and_assoc]
theorem stEq_refl (s : St) : stEq s s = true := stEq_iff.2 rfl
theorem stEq_ne {s t : St} (h : s ≠ t) : stEq s t = false := by cases hb : stEq s t with | false => rfl | true => exact absurd (stEq_iff.1 hb) h

theorem state_eqIn (s t : St) (w : World) : (Op.equalIn 10000 25 (.agg #[.int .i64 s.pc, .int .i64 s.c0, .int .i64 s.c1, .int .i64 s.c2, .int .i64 s.c3, .int .i64 s.c4, .int .i64 s.c5, .bool s.failed]) (.agg #[.int .i64 t.pc, .int .i64 t.c0, .int .i64 t.c1, .int .i64 t.c2, .int .i64 t.c3, .int .i64 t.c4, .int .i64 t.c5, .bool t.failed])).run Tryd.prog w = .ok (stEq s t) w := by
  have hf : ∃ a b c : Field, (a.name = "At" ∧ a.type = 3 ∧ a.offset = 0) ∧ (b.name = "Cells" ∧ b.type = 23 ∧ b.offset = 1) ∧ (c.name = "Failed" ∧ c.type = 4 ∧ c.offset = 7) ∧ (Tryd.prog.fieldsOf 25).toList = [a, b, c] :=
    ⟨(Tryd.prog.fieldsOf 25)[0]!, (Tryd.prog.fieldsOf 25)[1]!, (Tryd.prog.fieldsOf 25)[2]!, ⟨by kernel_rfl, by kernel_rfl, by kernel_rfl⟩, ⟨by kernel_rfl, by kernel_rfl, by kernel_rfl⟩, ⟨by kernel_rfl, by kernel_rfl, by kernel_rfl⟩, by kernel_rfl⟩
  obtain ⟨a, b, c, ⟨a1, a2, a3⟩, ⟨b1, b2, b3⟩, ⟨c1, c2, c3⟩, hf⟩ := hf
  rw [run_equalIn_struct w 9999 25 _ _ (by kernel_rfl) (by kernel_rfl), hf]
  have p0 : ∀ (s : St) w, (part 3 #[.int .i64 s.pc, .int .i64 s.c0, .int .i64 s.c1, .int .i64 s.c2, .int .i64 s.c3, .int .i64 s.c4, .int .i64 s.c5, .bool s.failed] 0).run Tryd.prog w = .ok (.int .i64 s.pc) w := fun s w => by kernel_rfl
  have p1 : ∀ (s : St) w, (part 23 #[.int .i64 s.pc, .int .i64 s.c0, .int .i64 s.c1, .int .i64 s.c2, .int .i64 s.c3, .int .i64 s.c4, .int .i64 s.c5, .bool s.failed] 1).run Tryd.prog w = .ok (.agg (ints s.nums).toArray) w := fun s w => by kernel_rfl
  have p2 : ∀ (s : St) w, (part 4 #[.int .i64 s.pc, .int .i64 s.c0, .int .i64 s.c1, .int .i64 s.c2, .int .i64 s.c3, .int .i64 s.c4, .int .i64 s.c5, .bool s.failed] 7).run Tryd.prog w = .ok (.bool s.failed) w := fun s w => by kernel_rfl
  have e0 : ∀ (a b : Int) w, (Op.equalIn 9999 3 (.int .i64 a) (.int .i64 b)).run Tryd.prog w = .ok (a == b) w := fun a b w => run_equalIn_int w 9998 _ .i64 .i64 a b Tryd.underlying3
  have e1 : ∀ (s t : St) w, (Op.equalIn 9999 23 (.agg (ints s.nums).toArray) (.agg (ints t.nums).toArray)).run Tryd.prog w = .ok (s.nums == t.nums) w := fun s t w => run_equalIn_ints w 9997 _ 3 6 Tryd.underlying23 Tryd.underlying3 (fun w => by kernel_rfl) s.nums t.nums rfl rfl
  have e2 : ∀ (a b : Bool) w, (Op.equalIn 9999 4 (.bool a) (.bool b)).run Tryd.prog w = .ok (a == b) w := fun a b w => run_equalIn_bool w 9998 _ a b Tryd.underlying4
  have n0 : a.name ≠ "_" := by rw [a1]; decide
  have n1 : b.name ≠ "_" := by rw [b1]; decide
  have n2 : c.name ≠ "_" := by rw [c1]; decide
  simp only [Op.eqFields, if_pos n0, if_pos n1, if_pos n2, a2, a3, b2, b3, c2, c3, Sem.run_bind, p0, p1, p2, e0, e1, e2, Result.andThen_ok, Sem.run_ite, Sem.run_pure]
  unfold stEq
  cases s.pc == t.pc <;> cases s.nums == t.nums <;> cases s.failed == t.failed <;> rfl
theorem state_eql (s t : St) (w : World) : (binOp .eql 25 (.agg #[.int .i64 s.pc, .int .i64 s.c0, .int .i64 s.c1, .int .i64 s.c2, .int .i64 s.c3, .int .i64 s.c4, .int .i64 s.c5, .bool s.failed]) (.agg #[.int .i64 t.pc, .int .i64 t.c0, .int .i64 t.c1, .int .i64 t.c2, .int .i64 t.c3, .int .i64 t.c4, .int .i64 t.c5, .bool t.failed])).run Tryd.prog w = .ok (.bool (stEq s t)) w := by
  rw [run_eql_struct, state_eqIn]; rfl
theorem state_neq (s t : St) (w : World) : (binOp .neq 25 (.agg #[.int .i64 s.pc, .int .i64 s.c0, .int .i64 s.c1, .int .i64 s.c2, .int .i64 s.c3, .int .i64 s.c4, .int .i64 s.c5, .bool s.failed]) (.agg #[.int .i64 t.pc, .int .i64 t.c0, .int .i64 t.c1, .int .i64 t.c2, .int .i64 t.c3, .int .i64 t.c4, .int .i64 t.c5, .bool t.failed])).run Tryd.prog w = .ok (.bool (!stEq s t)) w := by
  rw [run_neq_struct, state_eqIn]; rfl
theorem state_guard : Tryd.prog.eqGuardType Tryd.prog.depth 25 = false := by kernel_rfl
end Go.Proofs.YtnighanlonkjbaaDoor
