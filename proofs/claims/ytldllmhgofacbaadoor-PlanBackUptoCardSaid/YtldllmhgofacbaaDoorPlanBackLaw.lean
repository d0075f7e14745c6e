/- What plan.Parse hands back, in short: for the statement's first text, for a plan's own text, for any text. Conditions: those of Parse's contract. -/
import Derived.Test.YtldllmhgofacbaaDoorPlanParse
import Derived.Test.YtldllmhgofacbaaDoorSamePlan
namespace Go.Proofs.YtldllmhgofacbaaDoor
open Go.RowKit
set_option maxRecDepth 100000

theorem codeLines_len (n : Nat) : ∀ (c : List (List Op)), (∀ l ∈ c, l.length ≤ n) → (codeLines c).length ≤ (n + 1) * c.length
  | [], _ => by simp [codeLines]
  | d :: c, h => by
    have h1 := codeLines_len n c fun l hl => h l (by simp [hl])
    have h2 := h d (by simp)
    have e : codeLines (d :: c) = .room :: (d.map PLine.op ++ codeLines c) := by unfold codeLines; rw [List.flatMap_cons]; rfl
    rw [e, List.length_cons, List.length_append, List.length_map, List.length_cons, Nat.mul_add]
    omega
theorem plinesT_len : ∀ (l : List PLine), (∀ x ∈ l, x.Wf) → (plinesT l).length ≤ 120 * l.length
  | [], _ => by simp [plinesT]
  | x :: l, h => by
    have h1 := plinesT_len l fun y hy => h y (by simp [hy])
    have h2 := plineText_le (h x (by simp))
    unfold plinesT at h1 ⊢
    rw [List.flatMap_cons, List.length_append, List.length_cons]; omega
theorem planText_le {m : PM} (h : planChk m.pl = 0) : (planText m.pl).length ≤ 30000 := by
  have hs := planSmall h
  have h1 := plinesT_len (linesP m.pl) (wfpl_ok (planChk_ok h))
  have h2 := codeLines_len 20 m.pl.code fun l hl => by
    obtain ⟨r, hr, rfl⟩ := List.mem_map.1 hl
    exact hs.ops r hr
  have h3 := hs.ros
  have h4 := hs.spans
  have h5 := hs.wires
  have h6 : m.pl.code.length = m.ros.length := by unfold PM.pl; simp
  have h7 : (linesP m.pl).length = m.spans.length + (m.wires.length + (codeLines m.pl.code).length) + 1 := by unfold linesP PM.pl; simp
  have h8 : plinesT (linesP m.pl) = planText m.pl := rfl
  rw [← h8]
  omega
theorem plan_small {m : PM} (h : planChk m.pl = 0) : m.ros.length ≤ 1000 ∧ m.spans.length ≤ 1000 ∧ m.wires.length ≤ 1000 ∧ ∀ r ∈ m.ros, r.ops.length ≤ 1000 := by
  have hs := planSmall h
  have h3 := hs.ros
  have h4 := hs.spans
  have h5 := hs.wires
  exact ⟨by omega, by omega, by omega, fun r hr => by have := hs.ops r hr; omega⟩
/-- The statement's first text. -/
def factPl : Pl := ⟨[[⟨10, 0, 0⟩]], 3, [⟨0, 1, 0⟩], []⟩
theorem factPl_ok : planChk factPl = 0 := by decide
theorem factPl_text : planText factPl = [102, 114, 97, 109, 101, 32, 51, 10, 115, 112, 97, 110, 32, 48, 32, 49, 32, 48, 10, 114, 111, 111, 109, 10, 114, 101, 115, 116, 10] := by
  have h0 : Lib.itoa 0 = [48] := itoa_one (i := 0) (by decide)
  have h1 : Lib.itoa 1 = [49] := itoa_one (i := 1) (by decide)
  have h3 : Lib.itoa 3 = [51] := itoa_one (i := 3) (by decide)
  simp [planText, linesP, codeLines, factPl, plineText, PLine.txt, PLine.word, PLine.nums, fieldsOf, nameOf, formA, formB, numT, h0, h1, h3]
/-- What is read of the first text. -/
def FactRead (w : World) (e : Ending) (w' : World) : Prop := ∃ (A sA wA : Option Addr) (c sc nw wc : Nat), e = .returned (.tuple #[.agg #[.slice A 1 c, .int .i64 3, .slice sA 1 sc, .slice wA nw wc], .nilIface]) ∧ Below w.heap.size w w'
theorem factPl_any (w : World) (hf : Forms w) (hnm : Names w) (hd : Desk w) (hp : Parts w) : Calls Tryd.prog 4 #[.string ⟨#[102, 114, 97, 109, 101, 32, 51, 10, 115, 112, 97, 110, 32, 48, 32, 49, 32, 48, 10, 114, 111, 111, 109, 10, 114, 101, 115, 116, 10]⟩] w (FactRead w) := by
  have h0 : (⟨#[102, 114, 97, 109, 101, 32, 51, 10, 115, 112, 97, 110, 32, 48, 32, 49, 32, 48, 10, 114, 111, 111, 109, 10, 114, 101, 115, 116, 10]⟩ : ByteArray).data.toList = planText factPl := factPl_text.symm
  have hw0 := wfpl_ok (planChk_ok factPl_ok)
  refine (pparse_any _ (by decide) w hf hnm hd hp).mono ?_
  rintro e w' ⟨hb, ⟨m, hwf, htx, hchk, rfl, hat, _⟩ | ⟨p, hwf, htx, hchk, rfl⟩ | ⟨hno, rfl⟩⟩
  · rw [h0] at htx
    have hm := plan_inj hwf hw0 htx
    have e1 : m.ros.length = 1 := by have := congrArg (fun p : Pl => p.code.length) hm; simpa [PM.pl, factPl] using this
    have e2 : m.ticks = 3 := congrArg Pl.ticks hm
    have e3 : m.spans.length = 1 := by have := congrArg (fun p : Pl => p.spans.length) hm; simpa [PM.pl, factPl] using this
    refine ⟨m.A, m.sA, m.wA, m.c, m.sc, m.wires.length, m.wc, ?_, hb⟩
    rw [e1, e2, e3]
  · rw [h0] at htx
    have hm := plan_inj hwf hw0 htx
    rw [hm] at hchk
    exact absurd factPl_ok hchk
  · exact absurd h0.symm (hno factPl hw0)
/-- Any text, in short. -/
def TextRead (t : ByteArray) (w : World) (e : Ending) (w' : World) : Prop :=
  Below w.heap.size w w' ∧ ((∃ m : PM, planText m.pl = t.data.toList ∧ planChk m.pl = 0 ∧ e = .returned (.tuple #[.agg #[.slice m.A m.ros.length m.c, .int .i64 m.ticks, .slice m.sA m.spans.length m.sc, .slice m.wA m.wires.length m.wc], .nilIface]) ∧ PlanAt w' m) ∨ (∃ k : Int, k ≠ 0 ∧ e = .returned (.tuple #[.agg zeroPl, errV k])))
theorem textPl_any (t : ByteArray) (ht : t.size ≤ 1073741824) (w : World) (hf : Forms w) (hnm : Names w) (hd : Desk w) (hp : Parts w) : Calls Tryd.prog 4 #[.string t] w (TextRead t w) := by
  refine (pparse_any t ht w hf hnm hd hp).mono ?_
  rintro e w' ⟨hb, ⟨m, hwf, htx, hchk, rfl, hat, _⟩ | ⟨p, hwf, htx, hchk, rfl⟩ | ⟨hno, rfl⟩⟩
  · exact ⟨hb, .inl ⟨m, htx, hchk, rfl, hat⟩⟩
  · exact ⟨hb, .inr ⟨_, hchk, rfl⟩⟩
  · exact ⟨hb, .inr ⟨2, by decide, rfl⟩⟩
/-- A plan's own text is read as it was. -/
theorem ownPl_any {m : PM} (h : planChk m.pl = 0) (w : World) (hf : Forms w) (hnm : Names w) (hd : Desk w) (hp : Parts w) : Calls Tryd.prog 4 #[txt (planText m.pl)] w fun e w' =>
    ∃ m' : PM, m'.pl = m.pl ∧ e = .returned (.tuple #[.agg #[.slice m'.A m'.ros.length m'.c, .int .i64 m'.ticks, .slice m'.sA m'.spans.length m'.sc, .slice m'.wA m'.wires.length m'.wc], .nilIface]) ∧ PlanAt w' m' ∧ (∀ j, planF m' j → w.heap.size ≤ j) ∧ Below w.heap.size w w' := by
  have hw0 := wfpl_ok (planChk_ok h)
  have hle := planText_le h
  have h0 : (⟨(planText m.pl).toArray⟩ : ByteArray).data.toList = planText m.pl := rfl
  refine (pparse_any _ (by rw [Lib.size_eq, h0]; omega) w hf hnm hd hp).mono ?_
  rintro e w' ⟨hb, ⟨m', hwf, htx, hchk, rfl, hat, hfr⟩ | ⟨p, hwf, htx, hchk, rfl⟩ | ⟨hno, rfl⟩⟩
  · exact ⟨m', plan_inj hwf hw0 htx, rfl, hat, hfr, hb⟩
  · have hm := plan_inj hwf hw0 htx
    rw [hm] at hchk
    exact absurd h hchk
  · exact absurd h0.symm (hno m.pl hw0)
end Go.Proofs.YtldllmhgofacbaaDoor
