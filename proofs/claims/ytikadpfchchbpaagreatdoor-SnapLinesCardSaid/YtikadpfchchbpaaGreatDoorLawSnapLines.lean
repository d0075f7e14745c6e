/- The statement on framelaw4.SnapLines: its walk, the frame that makes the given row of it, and the tied card. Conditions: none beyond the given card's. -/
import Derived.Test.YtikadpfchchbpaaGreatDoorSnapLinesWalk
import Derived.Test.YtikadpfchchbpaaGreatDoorDoorX
import Derived.Test.YtikadpfchchbpaaGreatDoorDoorU
import Derived.Test.YtikadpfchchbpaaGreatDoorDoorXE
import Derived.Test.YtikadpfchchbpaaGreatDoorTie
import Derived.ChangeSame
import Derived.ChangeVars
import Derived.JoinedOf
import Derived.RowKitTokens
import Derived.LaidLaws
import Derived.LaidHandle
import Derived.Stop.Joined
import Derived.SevenTiedAt
import Derived.Test.YtikadpfchchbpaaGreatDoorOpen
import Derived.Test.YtikadpfchchbpaaGreatDoorCards
namespace Go.Proofs.YtikadpfchchbpaaGreatDoor.snapLines
open Go.ChangeShapes Go.WideShapes Go.ChangeAt Go.RowKit
set_option maxRecDepth 100000
/-- A world that meets the row's list. -/
noncomputable def laidW (os : Os) : World := (handledW os).layVars Tryz.prog (Rows.snapLinesRow.laid.filter fun x => x.2.handleName?.isNone)
theorem laidW_os (os : Os) : (laidW os).os = os := (World.layVars_os _ _ _).trans (handledW_os os)
theorem laidW_met (os : Os) (args : Array Value) : laidMetH Tryz.prog Rows.snapLinesRow.laid ((laidW os).forCall (fun _ _ => 0) ⟨#[], args, []⟩).memory :=
  laidMetH_of_parts (laid_met_over (by kernel_rfl) (by kernel_rfl)) (by kernel_rfl)
theorem lifted (os : Os) (started : os.Started) (H : Type) (enc : TypeId × Value → H) :
    ReturnsInHanded {} Tryz.checked os 3 .any (fun w args => (Rows.snapLinesSpec.pre enc Tryz.prog Tryz.f3 [] false w args ∧ laidMetH Tryz.prog Rows.snapLinesRow.laid w) ∧ sizedMet enc Tryz.prog Tryz.f3 (OpenSpec.ofChange Rows.snapLinesSpec) false w args) (Rows.snapLinesSpec.post enc Tryz.prog Tryz.f3 false true false false) := by
  refine returnsInHanded_of_change_and (C := Tryz.checked) (X := fun w _ => laidMetH Tryz.prog Rows.snapLinesRow.laid w) (fun _ _ _ hh h => h.of_heap hh) Tryz.own started (by kernel_rfl) Tryz.func3
    (ChangeSpec.witness_at (enc := enc) (C := Tryz.checked) (os := os) (X := fun w _ => laidMetH Tryz.prog Rows.snapLinesRow.laid w) false (laidW os) #[.agg #[.slice none 0 0, .int .i64 0, .slice none 0 0, .slice none 0 0], .int .i64 0] 8 (laidW_os os) (by kernel_rfl) (by kernel_rfl) (by kernel_rfl) (by kernel_rfl) (by kernel_rfl) (laidW_met os _)) ?_
  intro W base args ds gs before hval0 hW _ _ hL _
  have hL2 : laidMet Tryz.prog (Rows.snapLinesRow.laid.filter fun x => x.2.handleName?.isNone) W ∧ handlesMet Tryz.prog theLaid W := hL
  obtain ⟨hF, hN⟩ := forms_of_reads (reads_met hL2.1 (n := "framekeep/code.forms") (d := Rows.laid_framekeep_code_forms) (List.mem_filter.2 ⟨by simp [Rows.snapLinesRow], rfl⟩))
  have hP := pows_of_reads (reads_met hL2.1 (n := "internal/strconv.uint64pow10") (d := Rows.laid_internal_strconv_uint64pow10) (List.mem_filter.2 ⟨by simp [Rows.snapLinesRow], rfl⟩))
  have hG := handle_of_met hL2.2
  have hval : ∀ (j : Nat) t v, Tryz.f3.params[j]? = some t → args[j]? = some v → Value.okWide Tryz.prog W .any base t v := hval0
  have hW' := hW
  obtain ⟨p, q, hA0, hV, rfl, hfz, hnd⟩ := hW
  have hA : DataW.TrodAll enc Tryz.prog W 0 (fun _ => true) true Tryz.f3.params.toList args.toList ds p := hA0
  rw [Tryz.params3] at hA hval
  obtain ⟨v0, vs0, d0, ds0, p0, q0, hargs, rfl, rfl, h0, r0⟩ := trodAll_cons hA
  obtain ⟨v1, vs1, d1, ds1, p1, q1, rfl, rfl, rfl, h1, r1⟩ := trodAll_cons r0
  obtain ⟨rfl, rfl, rfl⟩ := trodAll_nil r1
  obtain rfl : args = #[v0, v1] := by cases args; simp_all
  obtain ⟨rfl, rfl⟩ := trodVars_none hV
  clear hA0 hval0 hfz hnd
  obtain ⟨m0, rfl, wf0⟩ := open_plan (hval 0 26 v0 rfl rfl) h0
  obtain ⟨a1, rfl, rfl, rfl, wf1⟩ := open_int Tryz.underlying3 (hval 1 3 v1 rfl rfl) h1
  have hread : Tryz.f3.params.toList.all (fun t => Tryz.prog.readableRec t && decide (t < Tryz.prog.types.size)) = true := by kernel_rfl
  refine (snapLines_walk (w := W) hG hF hN hP (pows_lt hP) m0 wf0 a1).mono fun e W' ⟨he, hb⟩ => ?_
  subst he
  exact ⟨_, rfl, post_law Tryz.laidOut hW' rfl hread rfl Tryz.underlying4 (by simp [Rows.snapLinesSpec]) (by simp [Rows.snapLinesSpec]) (by simp [Rows.snapLinesSpec]) hb⟩

/-- The given row. -/
theorem row : Rows.SnapLinesSaid :=
  OpenClaim.holds_of_wide 3 Tryz.f3 rfl rfl rfl rfl rfl rfl rfl ⟨rfl, rfl, rfl, rfl, rfl⟩ rfl rfl rfl rfl rfl (by kernel_rfl) Tryz.func3 (by kernel_rfl)
    (of_decide_eq_true (by kernel_rfl)) (by unfold Func.isWrapper; rw [if_neg (of_decide_eq_false (by kernel_rfl))]; exact ⟨rfl, rfl⟩)
    (fun os started H enc _ => lifted os started H enc)
/-- The given statement: the tied card. -/
theorem proved : Rows.SnapLinesCardSaid :=
  Claim7.holds_tied_plain_at .later [] [.data, .data, .data, .data, .handle, .sentinel, .sentinel, .widerDeep, .pinned] true Rows.snapLinesCard.stood.harness Rows.snapLinesCard.stood.looks
    row (fun _ h => by cases h) (by kernel_rfl) (fun _ h => by cases h) snapLines_row_tie rfl ⟨rfl, rfl⟩ (by kernel_rfl) rfl
    (fun f fn hf hfn => by
      obtain rfl : f = 3 := Option.some.inj ((show Tryz.prog.funcNamed Rows.snapLinesRow.func = some 3 by kernel_rfl).symm.trans hf) |>.symm
      obtain rfl : fn = Tryz.f3 := (Option.some.inj (Tryz.func3.symm.trans hfn)).symm
      exact ⟨by kernel_rfl, fun j t ht => by
        rw [Tryz.params3] at ht
        have hm : t ∈ [26, 3] := by have := Array.mem_of_getElem? ht; simpa using this
        have hall : ∀ t ∈ [26, 3], Tryz.prog.wantsStandIn t = false := by decide
        exact hall t hm⟩)
    (by kernel_rfl)
#print axioms proved
end Go.Proofs.YtikadpfchchbpaaGreatDoor.snapLines
