/- Several parts: each begins with what it says. -/
import Derived.Test.YthdmgighblhmhaaGreatDoorDoorU
import Derived.Stop.Asserts
import Derived.Test.YthdmgighblhmhaaGreatDoorRunLine
/- errors.As at a target of type *run.bad: an error of a line that cannot be read is one, an error of package api is none. Conditions: the cell of errors.errorType, which the row lists. -/
namespace Go.Proofs.YthdmgighblhmhaaGreatDoor
open Go.RowKit Go.Extern.Stop Go.Stop Go.Extern
set_option maxRecDepth 100000

theorem asb_valueOfP (t : Addr) (w : World) : (ReflectliteValue.unpack (.iface 100 (.pointer (some t)))).run Tryz.prog w
    = .ok (.agg #[.pointer (some ⟨11, 100, none⟩), .pointer (some ⟨w.heap.size, 0, none⟩), .int .u64 150]) (w.alloc (.cells #[.pointer (some t)] 100)) := by kernel_rfl
theorem asb_typeP (a : Addr) (w : World) : (ReflectliteValue.methodAny (ReflectliteValue.valueError "reflectlite.Value.Type" 0) (fun t _ _ _ => ReflectliteType.toType t) #[.agg #[.pointer (some ⟨11, 100, none⟩), .pointer (some a), .int .u64 150]]).run Tryz.prog w
    = .ok (.iface 158 (.agg #[.pointer (some ⟨11, 100, none⟩)])) w := by kernel_rfl
theorem asb_kindP (w : World) : ((ReflectliteType.abiMethod fun t => (fun a : Nat => Value.int IntKind.u8 (a : Int)) <$> Rtype.kind t) #[.pointer (some ⟨11, 100, none⟩)]).run Tryz.prog w = .ok (.int .u8 22) w := by kernel_rfl
theorem asb_kindE (w : World) : ((ReflectliteType.abiMethod fun t => (fun a : Nat => Value.int IntKind.u8 (a : Int)) <$> Rtype.kind t) #[.pointer (some ⟨11, 97, none⟩)]).run Tryz.prog w = .ok (.int .u8 25) w := by kernel_rfl
theorem asb_partsP (a : Addr) (w : World) : (ReflectliteValue.parts (.agg #[.pointer (some ⟨11, 100, none⟩), .pointer (some a), .int .u64 150])).run Tryz.prog w = .ok (some (100, a, 150)) w := by kernel_rfl
theorem asb_isNilP (a p : Addr) (W : World) (ha : W.cell? a = some (.pointer (some p))) :
    (ReflectliteValue.method (ReflectliteValue.valueError "reflectlite.Value.IsNil" 0) ReflectliteValue.isNil #[.agg #[.pointer (some ⟨11, 100, none⟩), .pointer (some a), .int .u64 150]]).run Tryz.prog W = .ok (.bool false) W := by
  rw [rlm]
  simp only [Sem.run_bind, asb_partsP, Result.andThen]
  simp [ReflectliteValue.isNil, loadVar, isAgg, underlying, Tryz.underlying100, ha, Result.andThen]
theorem asb_elemP (w : World) : (ReflectliteType.method ReflectliteType.elem #[.agg #[.pointer (some ⟨11, 100, none⟩)]]).run Tryz.prog w = .ok (.iface 158 (.agg #[.pointer (some ⟨11, 97, none⟩)])) w := by kernel_rfl
theorem asb_implE (w : World) : (ReflectliteType.relation "Implements" ReflectliteType.implements_ #[.agg #[.pointer (some ⟨11, 97, none⟩)], .iface 158 (.agg #[.pointer (some ⟨11, 40, none⟩)])]).run Tryz.prog w = .ok (.bool true) w := by kernel_rfl
theorem asb_typeOfE (v : Value) (w : World) : (ReflectliteType.typeOf #[.iface 97 v]).run Tryz.prog w = .ok (.iface 158 (.agg #[.pointer (some ⟨11, 97, none⟩)])) w := by kernel_rfl
theorem asb_assignE (w : World) : (ReflectliteType.relation "AssignableTo" ReflectliteType.assignableTo #[.agg #[.pointer (some ⟨11, 97, none⟩)], .iface 158 (.agg #[.pointer (some ⟨11, 97, none⟩)])]).run Tryz.prog w = .ok (.bool true) w := by kernel_rfl
theorem asb_valueOfE (u : Value) (w : World) : (ReflectliteValue.unpack (.iface 97 (.agg #[u]))).run Tryz.prog w
    = .ok (.agg #[.pointer (some ⟨11, 97, none⟩), .pointer (some ⟨w.heap.size, 0, none⟩), .int .u64 153]) (w.alloc (.cells #[u] 97)) := by kernel_rfl
theorem asb_elemOfP (w : World) : (Rtype.elem? 100).run Tryz.prog w = .ok (some 97) w := by kernel_rfl
theorem asb_mkE (p : Addr) (w : World) : (ReflectliteValue.mk 97 p ReflectliteValue.flagAddr).run Tryz.prog w = .ok (.agg #[.pointer (some ⟨11, 97, none⟩), .pointer (some p), .int .u64 409]) w := by kernel_rfl
theorem asb_elemVP (a p : Addr) (W : World) (ha : W.cell? a = some (.pointer (some p))) :
    (ReflectliteValue.method (ReflectliteValue.valueError "reflectlite.Value.Elem" 0) ReflectliteValue.elem #[.agg #[.pointer (some ⟨11, 100, none⟩), .pointer (some a), .int .u64 150]]).run Tryz.prog W
      = .ok (.agg #[.pointer (some ⟨11, 97, none⟩), .pointer (some p), .int .u64 409]) W := by
  rw [rlm]
  simp only [Sem.run_bind, asb_partsP, Result.andThen]
  simp [ReflectliteValue.elem, loadVar, isAgg, underlying, Tryz.underlying100, ha, Result.andThen, asb_elemOfP, asb_mkE]
theorem asb_partsEa (a : Addr) (w : World) : (ReflectliteValue.parts (.agg #[.pointer (some ⟨11, 97, none⟩), .pointer (some a), .int .u64 409])).run Tryz.prog w = .ok (some (97, a, 409)) w := by kernel_rfl
theorem asb_partsE (a : Addr) (w : World) : (ReflectliteValue.parts (.agg #[.pointer (some ⟨11, 97, none⟩), .pointer (some a), .int .u64 153])).run Tryz.prog w = .ok (some (97, a, 153)) w := by kernel_rfl
theorem asb_directE (w : World) : (Rtype.directlyAssignable 97 97).run Tryz.prog w = .ok true w := by kernel_rfl
theorem asb_setE (ta b : Addr) (u : Value) (old : Value) (W : World) (hu : u.oneCell' = true) (hb : W.cell? b = some u) (ht : W.cell? ta = some old) (hf : W.frozen? ta = false) :
    (ReflectliteValue.set #[.agg #[.pointer (some ⟨11, 97, none⟩), .pointer (some ta), .int .u64 409], .agg #[.pointer (some ⟨11, 97, none⟩), .pointer (some b), .int .u64 153]]).run Tryz.prog W
      = .ok (.tuple #[]) (W.setCell ta u) := by
  have hl : (loadCells b 1).run Tryz.prog W = .ok #[u] W := run_loadCells_list (P := Tryz.prog) W b [u] (fun j v hj => by
    match j, hj with
    | 0, hj =>
      simp at hj
      subst hj
      simpa [Addr.add] using hb)
  rw [rls]
  simp only [Sem.run_bind, asb_partsEa, asb_partsE, Result.andThen]
  simp [ReflectliteValue.flagAddr, loadVar, isAgg, underlying, Tryz.underlying97, Result.andThen, asb_directE, storeVar, Value.cells, storeCells, Addr.add, hl]
  rw [run_store Tryz.prog W ta _ _ hu]
  simp [ht, hf]

set_option maxHeartbeats 4000000 in
theorem asb_hit (u : Value) (hu : u.oneCell' = true) (t : Nat) (old : Value) (w : World) (hg : Handle w) (ht0 : w.cell? ⟨t, 0, none⟩ = some old) (hf0 : w.frozen? ⟨t, 0, none⟩ = false) :
    Calls Tryz.prog 33 #[.iface 97 (.agg #[u]), .iface 100 (.pointer (some ⟨t, 0, none⟩))] w fun ev w' => ev = .returned (.bool true) ∧ w' = ((((w.alloc (.cells #[.pointer (some ⟨t, 0, none⟩)] 100)).alloc (.cells #[.pointer (some ⟨11, 100, none⟩), .pointer (some ⟨w.heap.size, 0, none⟩), .int .u64 150] 130)).alloc (.cells #[.pointer (some ⟨11, 100, none⟩), .pointer (some ⟨w.heap.size, 0, none⟩), .int .u64 150] 130)).alloc (.cells #[u] 97)).setCell ⟨t, 0, none⟩ u := by
  unfold Handle at hg
  have h6 := @run_callFunc_extern Tryz.prog 62 _ (fun args => ReflectliteValue.unpack (args.getD 0 (.tuple #[]))) Tryz.func62 (by kernel_rfl) (by kernel_rfl) (by kernel_rfl) (by kernel_rfl)
  have h7 := @run_callFunc_extern Tryz.prog 63 _ (ReflectliteValue.methodAny (ReflectliteValue.valueError "reflectlite.Value.Type" 0) (fun t _ _ _ => ReflectliteType.toType t)) Tryz.func63 (by kernel_rfl) (by kernel_rfl) (by kernel_rfl) (by kernel_rfl)
  have h8 := @run_callFunc_extern Tryz.prog 64 _ (ReflectliteValue.method (ReflectliteValue.valueError "reflectlite.Value.IsNil" 0) ReflectliteValue.isNil) Tryz.func64 (by kernel_rfl) (by kernel_rfl) (by kernel_rfl) (by kernel_rfl)
  have h27 := @run_callFunc_extern Tryz.prog 159 _ (ReflectliteType.abiMethod fun t => do pure (.int .u8 (← Rtype.kind t))) Tryz.func159 (by kernel_rfl) (by kernel_rfl) (by kernel_rfl) (by kernel_rfl)
  have h37 := @run_callFunc_extern Tryz.prog 170 _ (ReflectliteType.method ReflectliteType.elem) Tryz.func170 (by kernel_rfl) (by kernel_rfl) (by kernel_rfl) (by kernel_rfl)
  have h38 := @run_callFunc_extern Tryz.prog 171 _ (ReflectliteType.relation "Implements" ReflectliteType.implements_) Tryz.func171 (by kernel_rfl) (by kernel_rfl) (by kernel_rfl) (by kernel_rfl)
  have h10 := @run_callFunc_extern Tryz.prog 86 _ ReflectliteType.typeOf Tryz.func86 (by kernel_rfl) (by kernel_rfl) (by kernel_rfl) (by kernel_rfl)
  have h35 := @run_callFunc_extern Tryz.prog 168 _ (ReflectliteType.relation "AssignableTo" ReflectliteType.assignableTo) Tryz.func168 (by kernel_rfl) (by kernel_rfl) (by kernel_rfl) (by kernel_rfl)
  have h11 := @run_callFunc_extern Tryz.prog 87 _ (ReflectliteValue.method (ReflectliteValue.valueError "reflectlite.Value.Elem" 0) ReflectliteValue.elem) Tryz.func87 (by kernel_rfl) (by kernel_rfl) (by kernel_rfl) (by kernel_rfl)
  have h12 := @run_callFunc_extern Tryz.prog 88 _ ReflectliteValue.set Tryz.func88 (by kernel_rfl) (by kernel_rfl) (by kernel_rfl) (by kernel_rfl)
  have tO := asb_typeOfE
  have mA := as_mAssign
  have a25 := asb_assignE
  have v25 := asb_valueOfE
  have f6 := asb_valueOfP
  have f7 := asb_typeP
  have mK := as_mKind
  have mE := as_mElem
  have mI := as_mImpl
  have k27 := asb_kindP
  have k25 := asb_kindE
  have e27 := asb_elemP
  have i25 := asb_implE
  have n8 := asb_isNilP ⟨w.heap.size, 0, none⟩ ⟨t, 0, none⟩ ((w.alloc (.cells #[.pointer (some ⟨t, 0, none⟩)] 100)).alloc (.cells #[.pointer (some ⟨11, 100, none⟩), .pointer (some ⟨w.heap.size, 0, none⟩), .int .u64 150] 130)) (by simp)
  have hlt : 1 < w.heap.size := cell_lt hg
  have hg2 : ((w.alloc (.cells #[.pointer (some ⟨t, 0, none⟩)] 100)).alloc (.cells #[.pointer (some ⟨11, 100, none⟩), .pointer (some ⟨w.heap.size, 0, none⟩), .int .u64 150] 130)).cell? ⟨1, 0, none⟩ = some (.iface 158 (.agg #[.pointer (some ⟨11, 40, none⟩)])) := by
    rw [World.cell?_alloc_lt _ _ ⟨1, 0, none⟩ (Nat.lt_of_lt_of_le hlt (by simp)), World.cell?_alloc_lt _ _ ⟨1, 0, none⟩ hlt]; exact hg
  have htl : t < w.heap.size := cell_lt ht0
  have el := asb_elemVP ⟨w.heap.size, 0, none⟩ ⟨t, 0, none⟩ (((w.alloc (.cells #[.pointer (some ⟨t, 0, none⟩)] 100)).alloc (.cells #[.pointer (some ⟨11, 100, none⟩), .pointer (some ⟨w.heap.size, 0, none⟩), .int .u64 150] 130)).alloc (.cells #[.pointer (some ⟨11, 100, none⟩), .pointer (some ⟨w.heap.size, 0, none⟩), .int .u64 150] 130)) (by rw [World.cell?_alloc_lt _ _ ⟨w.heap.size, 0, none⟩ (by simp; omega)]; simp)
  have st := asb_setE ⟨t, 0, none⟩ ⟨w.heap.size + 1 + 1 + 1, 0, none⟩ u old ((((w.alloc (.cells #[.pointer (some ⟨t, 0, none⟩)] 100)).alloc (.cells #[.pointer (some ⟨11, 100, none⟩), .pointer (some ⟨w.heap.size, 0, none⟩), .int .u64 150] 130)).alloc (.cells #[.pointer (some ⟨11, 100, none⟩), .pointer (some ⟨w.heap.size, 0, none⟩), .int .u64 150] 130)).alloc (.cells #[u] 97)) hu
    (by rw [World.cell?_alloc_at _ _ _ _ (by simp)]; rfl)
    (by rw [World.cell?_alloc_lt _ _ ⟨t, 0, none⟩ (by simp; omega), World.cell?_alloc_lt _ _ ⟨t, 0, none⟩ (by simp; omega), World.cell?_alloc_lt _ _ ⟨t, 0, none⟩ (by simp; omega), World.cell?_alloc_lt _ _ ⟨t, 0, none⟩ htl]; exact ht0)
    (by rw [World.frozen?_alloc_old _ _ ⟨t, 0, none⟩ (by simp; omega), World.frozen?_alloc_old _ _ ⟨t, 0, none⟩ (by simp; omega), World.frozen?_alloc_old _ _ ⟨t, 0, none⟩ (by simp; omega), World.frozen?_alloc_old _ _ ⟨t, 0, none⟩ (Nat.ne_of_lt htl)]; exact hf0)
  go_enter Tryz.func33, Tryz.ntmps33
  go_wp2
  refine wp_loop_rounds 1 ?_
  rw [rounds_succ]
  go_wp2
  go_ret
  exact ⟨rfl, rfl⟩

end Go.Proofs.YthdmgighblhmhaaGreatDoor

/- errors.As at a target of type *run.bad: an error of package api is none. Conditions: the cell of errors.errorType, which the row lists. -/
namespace Go.Proofs.YthdmgighblhmhaaGreatDoor
open Go.RowKit Go.Extern.Stop Go.Stop Go.Extern
set_option maxRecDepth 100000

theorem asb_assignN (w : World) : (ReflectliteType.relation "AssignableTo" ReflectliteType.assignableTo #[.agg #[.pointer (some ⟨11, 98, none⟩)], .iface 158 (.agg #[.pointer (some ⟨11, 97, none⟩)])]).run Tryz.prog w = .ok (.bool false) w := by kernel_rfl
theorem asb_noAs (v : Value) (x : TypeId) (w : World) : (Instr.typeAssert (.iface 98 v) x 163 true).run Tryz.prog w = .ok (.tuple #[.nilIface, .bool false]) w := run_typeAssert_lacksB Tryz.underlying163 (by kernel_rfl) (by kernel_rfl) v x w
theorem asb_noUn (v : Value) (x : TypeId) (w : World) : (Instr.typeAssert (.iface 98 v) x 166 true).run Tryz.prog w = .ok (.tuple #[.nilIface, .bool false]) w := run_typeAssert_lacksB Tryz.underlying166 (by kernel_rfl) (by kernel_rfl) v x w
theorem asb_noUns (v : Value) (x : TypeId) (w : World) : (Instr.typeAssert (.iface 98 v) x 168 true).run Tryz.prog w = .ok (.tuple #[.nilIface, .bool false]) w := run_typeAssert_lacksB Tryz.underlying168 (by kernel_rfl) (by kernel_rfl) v x w
set_option maxHeartbeats 4000000 in
theorem asb_miss (n : Int) (t : Nat) (w : World) (hg : Handle w) :
    Calls Tryz.prog 33 #[.iface 98 (.int .i64 n), .iface 100 (.pointer (some ⟨t, 0, none⟩))] w fun ev w' => ev = .returned (.bool false) ∧ Below w.heap.size w w' := by
  unfold Handle at hg
  have h6 := @run_callFunc_extern Tryz.prog 62 _ (fun args => ReflectliteValue.unpack (args.getD 0 (.tuple #[]))) Tryz.func62 (by kernel_rfl) (by kernel_rfl) (by kernel_rfl) (by kernel_rfl)
  have h7 := @run_callFunc_extern Tryz.prog 63 _ (ReflectliteValue.methodAny (ReflectliteValue.valueError "reflectlite.Value.Type" 0) (fun t _ _ _ => ReflectliteType.toType t)) Tryz.func63 (by kernel_rfl) (by kernel_rfl) (by kernel_rfl) (by kernel_rfl)
  have h8 := @run_callFunc_extern Tryz.prog 64 _ (ReflectliteValue.method (ReflectliteValue.valueError "reflectlite.Value.IsNil" 0) ReflectliteValue.isNil) Tryz.func64 (by kernel_rfl) (by kernel_rfl) (by kernel_rfl) (by kernel_rfl)
  have h27 := @run_callFunc_extern Tryz.prog 159 _ (ReflectliteType.abiMethod fun t => do pure (.int .u8 (← Rtype.kind t))) Tryz.func159 (by kernel_rfl) (by kernel_rfl) (by kernel_rfl) (by kernel_rfl)
  have h37 := @run_callFunc_extern Tryz.prog 170 _ (ReflectliteType.method ReflectliteType.elem) Tryz.func170 (by kernel_rfl) (by kernel_rfl) (by kernel_rfl) (by kernel_rfl)
  have h38 := @run_callFunc_extern Tryz.prog 171 _ (ReflectliteType.relation "Implements" ReflectliteType.implements_) Tryz.func171 (by kernel_rfl) (by kernel_rfl) (by kernel_rfl) (by kernel_rfl)
  have h10 := @run_callFunc_extern Tryz.prog 86 _ ReflectliteType.typeOf Tryz.func86 (by kernel_rfl) (by kernel_rfl) (by kernel_rfl) (by kernel_rfl)
  have h35 := @run_callFunc_extern Tryz.prog 168 _ (ReflectliteType.relation "AssignableTo" ReflectliteType.assignableTo) Tryz.func168 (by kernel_rfl) (by kernel_rfl) (by kernel_rfl) (by kernel_rfl)
  have tO := as_typeOfE
  have nA := asb_noAs
  have nU := asb_noUn
  have nUs := asb_noUns
  have mA := as_mAssign
  have a25 := asb_assignN
  have f6 := asb_valueOfP
  have f7 := asb_typeP
  have mK := as_mKind
  have mE := as_mElem
  have mI := as_mImpl
  have k27 := asb_kindP
  have k25 := asb_kindE
  have e27 := asb_elemP
  have i25 := asb_implE
  have n8 := asb_isNilP ⟨w.heap.size, 0, none⟩ ⟨t, 0, none⟩ ((w.alloc (.cells #[.pointer (some ⟨t, 0, none⟩)] 100)).alloc (.cells #[.pointer (some ⟨11, 100, none⟩), .pointer (some ⟨w.heap.size, 0, none⟩), .int .u64 150] 130)) (by simp)
  have hlt : 1 < w.heap.size := cell_lt hg
  have hg2 : ((w.alloc (.cells #[.pointer (some ⟨t, 0, none⟩)] 100)).alloc (.cells #[.pointer (some ⟨11, 100, none⟩), .pointer (some ⟨w.heap.size, 0, none⟩), .int .u64 150] 130)).cell? ⟨1, 0, none⟩ = some (.iface 158 (.agg #[.pointer (some ⟨11, 40, none⟩)])) := by
    rw [World.cell?_alloc_lt _ _ ⟨1, 0, none⟩ (Nat.lt_of_lt_of_le hlt (by simp)), World.cell?_alloc_lt _ _ ⟨1, 0, none⟩ hlt]; exact hg
  go_enter Tryz.func33, Tryz.ntmps33
  go_wp2
  refine wp_loop_rounds 1 ?_
  rw [rounds_succ]
  go_wp2
  go_ret
  exact ⟨rfl, (((Below.refl _ _).alloc (Nat.le_refl _) _).alloc (by simp) _).alloc (by simp; omega) _⟩
end Go.Proofs.YthdmgighblhmhaaGreatDoor

/- Package run: the contract of answer on a kernel that stands. Conditions: 'Desk', run.unread and errors.errorType, which the row lists. -/
namespace Go.Proofs.YthdmgighblhmhaaGreatDoor
open Go.RowKit
set_option maxRecDepth 100000

set_option maxHeartbeats 1000000 in
theorem errno1_any (w : World) : Calls Tryz.prog 34 #[.int .i64 1] w fun e w' => e = .returned (.string ⟨#[69, 114, 114, 82, 97, 110, 103, 101]⟩) ∧ w = w' := by
  go_enter Tryz.func34, Tryz.ntmps34
  go_wp2_with fail
  go_ret
  exact ⟨rfl, rfl⟩
/-- What answer hands back. -/
def AnswerGot (w0 : World) (ts : List Tg) (kb : Nat) (q : List UInt8 × Kst) (e : Ending) (w' : World) : Prop :=
  ∃ (T : ByteArray) (M' : KM), e = .returned (.string T) ∧ T.data.toList = q.1 ∧ Stand w0 w' (rnT kb runPl M' q.2 :: ts)
section
variable {w0 w : World} {kb : Nat} {M : KM} {k : Kst} {ts : List Tg}
theorem as_below {w : World} {t : Nat} {S : Nat} (ht : S ≤ t) (hS : S ≤ w.heap.size) (o1 o2 o3 o4 : Obj) (v : Value) : Below S w (((((w.alloc o1).alloc o2).alloc o3).alloc o4).setCell ⟨t, 0, none⟩ v) :=
  (((((Below.refl _ _).alloc hS _).alloc (by simp; omega) _).alloc (by simp; omega) _).alloc (by simp; omega) _).setCell (p := ⟨t, 0, none⟩) ht _
set_option maxHeartbeats 8000000 in
theorem answer_any {B : Int} (hk : KOk runPl k B) (hB : B ≤ 900000) (hg0 : Handle w0) (hd0 : Desk w0) (hu0 : Unread w0) (s : ByteArray) (hs : s.size ≤ 100000) (h : Stand w0 w (rnT kb runPl M k :: ts)) :
    Calls Tryz.prog 16 #[.agg #[.pointer (some ⟨kb, 0, none⟩)], .string s] w (AnswerGot w0 ts kb (lineA k s.data.toList)) := by
  obtain ⟨w1, hw1⟩ : ∃ w1, w1 = w.alloc (.cells #[.pointer (some ⟨kb, 0, none⟩)] 44) := ⟨_, rfl⟩
  have hb1 : Below w.heap.size w w1 := by rw [hw1]; exact (Below.refl _ _).alloc (Nat.le_refl _) _
  have hline := line_any hk hB hd0 hu0 s hs (h.new hb1)
  generalize lineA k s.data.toList = q at hline ⊢
  have HLINE := hid hline
  have HG : Hid (∀ w', Below w0.heap.size w0 w' → Handle w') := hid fun w' hb => hg0.new hb
  clear hline hk hg0 hd0 hu0 h hb1
  go_enter Tryz.func16, Tryz.ntmps16
  go_upto_region 2 with (go_at_call 32; rw [← hw1]; refine HLINE.out.mono ?_; rintro e w2 (⟨T, er, M2, rfl, hor, hst⟩ | ⟨hq, rfl, M2, hst⟩))
  · clear HLINE hw1
    have HST := hid hst
    clear hst
    rcases hor with ⟨rfl, hT⟩ | ⟨rfl, hT⟩
    · have HT := hid hT
      clear hT
      rw [errV_zero]
      go_wp2_with (go_at_call 33; refine (as_nil _ _).mono ?_; rintro e w3 ⟨rfl, rfl⟩)
      go_ret
      exact ⟨T, M2, rfl, HT.out, HST.out.new (((Below.refl _ _).alloc (Nat.le_refl _) _).alloc (by simp) _)⟩
    · have HT := hid hT
      clear hT
      rw [errV_pos (by decide)]
      have hb3 : Below w2.heap.size w2 ((w2.alloc (.cells #[.nilIface] 97)).alloc (.cells #[.int .i64 0] 98)) := ((Below.refl _ _).alloc (Nat.le_refl _) _).alloc (by simp) _
      have HG3 := hid (HG.out _ (HST.out.new hb3).below)
      have HX3 := hid (alloc2_new w2 (.cells #[.nilIface] 97) (.cells #[.int .i64 0] 98))
      have HB3 := hid hb3
      clear hb3
      go_upto_region 6 with (go_at_call 33; refine (asb_miss 1 _ _ HG3.out).mono ?_; rintro e w4 ⟨rfl, hb4⟩)
      have hblk4 : w4.heap[w2.heap.size + 1]? = some (.cells #[.int .i64 0] 98 (0, 0)) := (hb4.block _ (by simp)).trans HX3.out
      have HB4 := hid (HB3.out.trans (hb4.mono HB3.out.size))
      have HG4 := hid (HG.out _ (HST.out.new HB4.out).below)
      have hc4 : w4.cell? ⟨w2.heap.size + 1, 0, none⟩ = some (.int .i64 0) := (blk_cell hblk4 0).trans rfl
      have HC4 := hid hc4
      have HF4 := hid (blk_free hblk4 0)
      have HBK := hid hblk4
      clear hb4 hblk4 hc4 HG3 HX3
      go_upto_region 7 with (go_at_call 33; refine (as_hit 1 _ _ _ HG4.out HC4.out HF4.out).mono ?_; rintro e w5 ⟨rfl, hw5⟩; have HW5 := hid hw5; clear hw5)
      have hblk5 : w5.heap[w2.heap.size + 1]? = some (.cells #[.int .i64 1] 98 (0, 0)) := by
        have hl := blk_lt HBK.out
        rw [HW5.out]
        refine blk_set (cs := #[.int .i64 0]) ?_ 0 (.int .i64 1)
        rw [blk_alloc (by simp; omega), blk_alloc (by simp; omega), blk_alloc (by simp; omega), blk_alloc hl]
        exact HBK.out
      have hx5 : w5.cell? ⟨w2.heap.size + 1, 0, none⟩ = some (.int .i64 1) := (blk_cell hblk5 0).trans rfl
      have HB5 : Hid (Below w2.heap.size w2 w5) := hid (HB4.out.trans (by rw [HW5.out]; exact (as_below (by omega) HB4.out.size _ _ _ _ _).mono (Nat.le_refl _)))
      have hl5 := blk_lt hblk5
      clear HW5 hblk5 HBK HC4 HF4 HG4
      go_wp2_with (go_at_call 34; refine (errno1_any _).mono ?_; rintro e w6 ⟨rfl, rfl⟩)
      go_ret
      exact ⟨_, M2, rfl, HT.out.symm, HST.out.new HB5.out⟩
  · have HST := hid hst
    have HQ := hid hq
    have hb3 : Below w2.heap.size w2 ((w2.alloc (.cells #[.nilIface] 97)).alloc (.cells #[.int .i64 0] 98)) := ((Below.refl _ _).alloc (Nat.le_refl _) _).alloc (by simp) _
    have HG3 := hid (HG.out _ (hst.new hb3).below)
    have hx3 := alloc2_old w2 (.cells #[.nilIface] 97) (.cells #[.int .i64 0] 98)
    have HC3 : Hid (((w2.alloc (.cells #[.nilIface] 97)).alloc (.cells #[.int .i64 0] 98)).cell? ⟨w2.heap.size, 0, none⟩ = some .nilIface) := hid ((blk_cell hx3 0).trans rfl)
    have HF3 := hid (blk_free hx3 0)
    have HB3 := hid hb3
    unfold badV
    clear hst hq hb3 hx3 HLINE hw1
    go_upto_region 5 with (go_at_call 33; refine (asb_hit _ rfl _ _ _ HG3.out HC3.out HF3.out).mono ?_; rintro e w5 ⟨rfl, hw5⟩; have HW5 := hid hw5; clear hw5)
    have HB5 : Hid (Below w2.heap.size w2 w5) := hid (HB3.out.trans (by rw [HW5.out]; exact (as_below (Nat.le_refl _) HB3.out.size _ _ _ _ _)))
    clear HW5
    go_wp2_with fail
    go_ret
    exact ⟨⟨#[98, 97, 100]⟩, M2, rfl, by rw [HQ.out]; rfl, by rw [HQ.out]; exact HST.out.new HB5.out⟩
end
end Go.Proofs.YthdmgighblhmhaaGreatDoor
