/- The statement on framelaw3.RunTicks: its walk, the frame that makes the given row of it, and the tied card. Conditions: none beyond the given card's. -/
import Derived.Test.YthdmgighblhmhaaGreatDoorRunTicksWalk
import Derived.Test.YthdmgighblhmhaaGreatDoorJoinedRunTicks
import Derived.Test.YthdmgighblhmhaaGreatDoorDeskU
import Derived.Test.YthdmgighblhmhaaGreatDoorDoorTU
import Derived.Test.YthdmgighblhmhaaGreatDoorDoorU
import Derived.Test.YthdmgighblhmhaaGreatDoorUnreadD
import Derived.Test.YthdmgighblhmhaaGreatDoorTie
import Derived.ChangeSame
import Derived.ChangeVars
import Derived.JoinedOf
import Derived.RowKitTokens
import Derived.LaidLaws
import Derived.LaidHandle
import Derived.Stop.Joined
import Derived.SevenTiedAt
import Derived.Deep.DeepHandedRow
import Derived.Lib.LaidTab
import Derived.ChangeMaps5
import Derived.Test.YthdmgighblhmhaaGreatDoorOpen
import Derived.Test.YthdmgighblhmhaaGreatDoorCards
namespace Go.Proofs.YthdmgighblhmhaaGreatDoor.runTicks
open Go.ChangeShapes Go.WideShapes Go.ChangeAt Go.RowKit
set_option maxRecDepth 100000
/-- A world that meets the row's list. -/
noncomputable def laidW (os : Os) : World := (handledW os).layVars Tryz.prog (Rows.runTicksRow.laid.filter fun x => x.2.handleName?.isNone)
theorem laidW_os (os : Os) : (laidW os).os = os := (World.layVars_os _ _ _).trans (handledW_os os)
theorem laidW_met (os : Os) (args : Array Value) : laidMetH Tryz.prog Rows.runTicksRow.laid ((laidW os).forCall (fun _ _ => 0) ⟨#[], args, []⟩).memory :=
  laidMetH_of_parts (laid_met_over (by kernel_rfl) (by kernel_rfl)) (by kernel_rfl)
theorem reads (os : Os) {H : Type} (enc : TypeId × Value → H) : ∃ places, DataW.whole enc Tryz.prog ((laidW os).forCall (fun _ _ => 0) ⟨#[], #[.int .i64 0, .int .i64 0], []⟩).memory Tryz.f5.params.toList Rows.runTicksSpec.vars false (#[.int .i64 0, .int .i64 0] : Array Value).toList 8 = some ([.lit (.int .i64 0), .lit (.int .i64 0)], [], places) :=
  ⟨[], by kernel_rfl⟩
theorem lifted (os : Os) (started : os.Started) (H : Type) (enc : TypeId × Value → H) (F : Stop.Interp) :
    ReturnsInHanded {} Tryz.checked os 5 .any ((OpenSpec.ofChange Rows.runTicksSpec).preRow enc Tryz.prog Tryz.f5 Rows.runTicksRow.domain false Rows.runTicksRow.laid) (((OpenSpec.ofChange Rows.runTicksSpec).at F).post enc Tryz.prog Tryz.f5 false true false false) := by
  obtain ⟨places, hx⟩ := reads os enc
  refine returnsInHanded_of_row (C := Tryz.checked) (s := OpenSpec.ofChange Rows.runTicksSpec) Tryz.own started (by kernel_rfl) Tryz.func5
    (witness_row_at (enc := enc) (C := Tryz.checked) false (laidW os) #[.int .i64 0, .int .i64 0] (laidW_os os) (by kernel_rfl) (by kernel_rfl) (by kernel_rfl)
      (OpenSpec.preRow_of_cond 8 hx (by kernel_rfl) (fun k hk => by cases hk) (by kernel_rfl) (laidW_met os _))) ?_
  intro W base args ds gs before hval0 hW _ _ _ hL hshape _
  have hL2 : laidMet Tryz.prog (Rows.runTicksRow.laid.filter fun x => x.2.handleName?.isNone) W ∧ handlesMet Tryz.prog theLaid W := hL
  obtain ⟨hF, hN⟩ := forms_of_reads (reads_met hL2.1 (n := "framekeep/code.forms") (d := Rows.laid_framekeep_code_forms) (List.mem_filter.2 ⟨by simp [Rows.runTicksRow], rfl⟩))
  have hP := pows_of_reads (reads_met hL2.1 (n := "internal/strconv.uint64pow10") (d := Rows.laid_internal_strconv_uint64pow10) (List.mem_filter.2 ⟨by simp [Rows.runTicksRow], rfl⟩))
  have hD : Desk W := ⟨hP, sent_of (k := 5) hL2.1 rfl Tryz.gES Tryz.gESt, sent_of (k := 4) hL2.1 rfl Tryz.gER Tryz.gERt, len_of hshape⟩
  have hG := handle_of_met hL2.2
  have hU := unread_of (k := 7) hL2.1 rfl
  have hval : ∀ (j : Nat) t v, Tryz.f5.params[j]? = some t → args[j]? = some v → Value.okWide Tryz.prog W .any base t v := hval0
  have hW' := hW
  obtain ⟨p, q, hA0, hV, rfl, hfz, hnd⟩ := hW
  have hA : DataW.TrodAll enc Tryz.prog W 0 (fun _ => true) true Tryz.f5.params.toList args.toList ds p := hA0
  rw [Tryz.params5] at hA hval
  obtain ⟨v0, vs0, d0, ds0, p0, q0, hargs, rfl, rfl, h0, r0⟩ := trodAll_cons hA
  obtain ⟨v1, vs1, d1, ds1, p1, q1, rfl, rfl, rfl, h1, r1⟩ := trodAll_cons r0
  obtain ⟨rfl, rfl, rfl⟩ := trodAll_nil r1
  obtain rfl : args = #[v0, v1] := by cases args; simp_all
  obtain ⟨rfl, rfl⟩ := trodVars_none hV
  clear hA0 hval0 hfz hnd
  obtain ⟨a0, rfl, rfl, rfl, wf0⟩ := open_int Tryz.underlying3 (hval 0 3 v0 rfl rfl) h0
  obtain ⟨a1, rfl, rfl, rfl, wf1⟩ := open_int Tryz.underlying3 (hval 1 3 v1 rfl rfl) h1
  have hread : Tryz.f5.params.toList.all (fun t => Tryz.prog.readableRec t && decide (t < Tryz.prog.types.size)) = true := by kernel_rfl
  refine (runTicks_walk (w := W) hG hF hN hD hU a0 a1).mono fun e W' ⟨he, hb⟩ => ?_
  subst he
  exact ⟨_, rfl, post_law Tryz.laidOut hW' rfl hread rfl Tryz.underlying4 rfl rfl rfl hb⟩

/-- The given row. -/
theorem row : Rows.RunTicksSaid :=
  OpenClaim.holds_of_cond 5 Tryz.f5 rfl rfl rfl rfl rfl rfl rfl ⟨rfl, rfl, rfl, rfl, rfl⟩ rfl rfl rfl rfl rfl named Tryz.func5 closed inst wrap
    (fun os started H enc _ F => by rw [OpenClaim.pre_eq_preRow]; exact lifted os started H enc F)
/-- The given statement: the tied card. -/
theorem proved : Rows.RunTicksCardSaid :=
  Claim7.holds_tied_plain_at .later [] [.data, .data, .data, .data, .handle, .sentinel, .sentinel, .widerDeep, .wider, .pinned] true Rows.runTicksCard.stood.harness Rows.runTicksCard.stood.looks
    row (fun _ h => by cases h) (by kernel_rfl) (fun _ h => by cases h) runTicks_row_tie rfl ⟨rfl, rfl⟩ (by kernel_rfl) rfl
    (fun f fn hf hfn => by
      obtain rfl : f = 5 := Option.some.inj ((show Tryz.prog.funcNamed Rows.runTicksRow.func = some 5 by kernel_rfl).symm.trans hf) |>.symm
      obtain rfl : fn = Tryz.f5 := (Option.some.inj (Tryz.func5.symm.trans hfn)).symm
      exact ⟨by kernel_rfl, fun j t ht => by
        rw [Tryz.params5] at ht
        have hm : t ∈ [3, 3] := by have := Array.mem_of_getElem? ht; simpa using this
        have hall : ∀ t ∈ [3, 3], Tryz.prog.wantsStandIn t = false := by decide
        exact hall t hm⟩)
    (by kernel_rfl)
#print axioms proved
end Go.Proofs.YthdmgighblhmhaaGreatDoor.runTicks
