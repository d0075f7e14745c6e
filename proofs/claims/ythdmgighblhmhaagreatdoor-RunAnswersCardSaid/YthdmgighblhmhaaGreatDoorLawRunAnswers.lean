/- The statement on framelaw3.RunAnswers: its walk, the frame that makes the given row of it, and the tied card. Conditions: none beyond the given card's. -/
import Derived.Test.YthdmgighblhmhaaGreatDoorRunAnswersWalk
import Derived.Test.YthdmgighblhmhaaGreatDoorJoinedRunAnswers
import Derived.Test.YthdmgighblhmhaaGreatDoorDeskU
import Derived.Test.YthdmgighblhmhaaGreatDoorDoorTU
import Derived.Test.YthdmgighblhmhaaGreatDoorDoorU
import Derived.Test.YthdmgighblhmhaaGreatDoorUnreadD
import Derived.Test.YthdmgighblhmhaaGreatDoorTie
import Derived.ChangeSame
import Derived.ChangeVars
import Derived.JoinedOf
import Derived.RowKitTokens
import Derived.LaidLaws
import Derived.LaidHandle
import Derived.Stop.Joined
import Derived.SevenTiedAt
import Derived.Deep.DeepHandedRow
import Derived.Lib.LaidTab
import Derived.ChangeMaps5
import Derived.Test.YthdmgighblhmhaaGreatDoorOpen
import Derived.Test.YthdmgighblhmhaaGreatDoorCards
namespace Go.Proofs.YthdmgighblhmhaaGreatDoor.runAnswers
open Go.ChangeShapes Go.WideShapes Go.ChangeAt Go.RowKit
set_option maxRecDepth 100000
/-- A world that meets the row's list. -/
noncomputable def laidW (os : Os) : World := (handledW os).layVars Tryz.prog (Rows.runAnswersRow.laid.filter fun x => x.2.handleName?.isNone)
theorem laidW_os (os : Os) : (laidW os).os = os := (World.layVars_os _ _ _).trans (handledW_os os)
theorem laidW_met (os : Os) (args : Array Value) : laidMetH Tryz.prog Rows.runAnswersRow.laid ((laidW os).forCall (fun _ _ => 0) ⟨#[], args, []⟩).memory :=
  laidMetH_of_parts (laid_met_over (by kernel_rfl) (by kernel_rfl)) (by kernel_rfl)
theorem reads (os : Os) {H : Type} (enc : TypeId × Value → H) : ∃ places, DataW.whole enc Tryz.prog ((laidW os).forCall (fun _ _ => 0) ⟨#[], #[.string ⟨#[]⟩], []⟩).memory Tryz.f3.params.toList Rows.runAnswersSpec.vars false (#[.string ⟨#[]⟩] : Array Value).toList 8 = some ([.lit (.string [])], [], places) :=
  ⟨[], by kernel_rfl⟩
theorem lifted (os : Os) (started : os.Started) (H : Type) (enc : TypeId × Value → H) (F : Stop.Interp) :
    ReturnsInHanded {} Tryz.checked os 3 .any ((OpenSpec.ofChange Rows.runAnswersSpec).preRow enc Tryz.prog Tryz.f3 Rows.runAnswersRow.domain false Rows.runAnswersRow.laid) (((OpenSpec.ofChange Rows.runAnswersSpec).at F).post enc Tryz.prog Tryz.f3 false true false false) := by
  obtain ⟨places, hx⟩ := reads os enc
  refine returnsInHanded_of_row (C := Tryz.checked) (s := OpenSpec.ofChange Rows.runAnswersSpec) Tryz.own started (by kernel_rfl) Tryz.func3
    (witness_row_at (enc := enc) (C := Tryz.checked) false (laidW os) #[.string ⟨#[]⟩] (laidW_os os) (by kernel_rfl) (by kernel_rfl) (by kernel_rfl)
      (OpenSpec.preRow_of_cond 8 hx (by kernel_rfl) (fun k hk => by cases hk) (by kernel_rfl) (laidW_met os _))) ?_
  intro W base args ds gs before hval0 hW _ _ _ hL hshape _
  have hL2 : laidMet Tryz.prog (Rows.runAnswersRow.laid.filter fun x => x.2.handleName?.isNone) W ∧ handlesMet Tryz.prog theLaid W := hL
  obtain ⟨hF, hN⟩ := forms_of_reads (reads_met hL2.1 (n := "framekeep/code.forms") (d := Rows.laid_framekeep_code_forms) (List.mem_filter.2 ⟨by simp [Rows.runAnswersRow], rfl⟩))
  have hP := pows_of_reads (reads_met hL2.1 (n := "internal/strconv.uint64pow10") (d := Rows.laid_internal_strconv_uint64pow10) (List.mem_filter.2 ⟨by simp [Rows.runAnswersRow], rfl⟩))
  have hD : Desk W := ⟨hP, sent_of (k := 5) hL2.1 rfl Tryz.gES Tryz.gESt, sent_of (k := 4) hL2.1 rfl Tryz.gER Tryz.gERt, len_of hshape⟩
  have hG := handle_of_met hL2.2
  have hU := unread_of (k := 7) hL2.1 rfl
  have hval : ∀ (j : Nat) t v, Tryz.f3.params[j]? = some t → args[j]? = some v → Value.okWide Tryz.prog W .any base t v := hval0
  have hW' := hW
  obtain ⟨p, q, hA0, hV, rfl, hfz, hnd⟩ := hW
  have hA : DataW.TrodAll enc Tryz.prog W 0 (fun _ => true) true Tryz.f3.params.toList args.toList ds p := hA0
  rw [Tryz.params3] at hA hval
  obtain ⟨v0, vs0, d0, ds0, p0, q0, hargs, rfl, rfl, h0, r0⟩ := trodAll_cons hA
  obtain ⟨rfl, rfl, rfl⟩ := trodAll_nil r0
  obtain rfl : args = #[v0] := by cases args; simp_all
  obtain ⟨rfl, rfl⟩ := trodVars_none hV
  clear hA0 hval0 hfz hnd
  obtain ⟨a0, rfl, rfl, rfl, wf0⟩ := Go.ChangeMaps.open_string Tryz.underlying9 (hval 0 9 v0 rfl rfl) h0
  have hread : Tryz.f3.params.toList.all (fun t => Tryz.prog.readableRec t && decide (t < Tryz.prog.types.size)) = true := by kernel_rfl
  refine (runAnswers_walk (w := W) hG hF hN hD hU a0 wf0).mono fun e W' ⟨he, hb⟩ => ?_
  subst he
  exact ⟨_, rfl, post_law Tryz.laidOut hW' rfl hread rfl Tryz.underlying4 rfl rfl rfl hb⟩

/-- The given row. -/
theorem row : Rows.RunAnswersSaid :=
  OpenClaim.holds_of_cond 3 Tryz.f3 rfl rfl rfl rfl rfl rfl rfl ⟨rfl, rfl, rfl, rfl, rfl⟩ rfl rfl rfl rfl rfl named Tryz.func3 closed inst wrap
    (fun os started H enc _ F => by rw [OpenClaim.pre_eq_preRow]; exact lifted os started H enc F)
/-- The given statement: the tied card. -/
theorem proved : Rows.RunAnswersCardSaid :=
  Claim7.holds_tied_plain_at .later [] [.data, .data, .data, .data, .handle, .sentinel, .sentinel, .widerDeep, .wider, .pinned] true Rows.runAnswersCard.stood.harness Rows.runAnswersCard.stood.looks
    row (fun _ h => by cases h) (by kernel_rfl) (fun _ h => by cases h) runAnswers_row_tie rfl ⟨rfl, rfl⟩ (by kernel_rfl) rfl
    (fun f fn hf hfn => by
      obtain rfl : f = 3 := Option.some.inj ((show Tryz.prog.funcNamed Rows.runAnswersRow.func = some 3 by kernel_rfl).symm.trans hf) |>.symm
      obtain rfl : fn = Tryz.f3 := (Option.some.inj (Tryz.func3.symm.trans hfn)).symm
      exact ⟨by kernel_rfl, fun j t ht => by
        rw [Tryz.params3] at ht
        have hm : t ∈ [9] := by have := Array.mem_of_getElem? ht; simpa using this
        have hall : ∀ t ∈ [9], Tryz.prog.wantsStandIn t = false := by decide
        exact hall t hm⟩)
    (by kernel_rfl)
#print axioms proved
end Go.Proofs.YthdmgighblhmhaaGreatDoor.runAnswers
