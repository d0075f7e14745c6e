/- The statement on framelaw2.TablesWhole: its walk, the frame that makes the given row of it, and the tied card. Conditions: none beyond the given card's. -/
import Derived.Test.YtongkiccglaniaaDoorTablesWholeWalk
import Derived.Test.YtongkiccglaniaaDoorDoorF
import Derived.Test.YtongkiccglaniaaDoorOpen
import Derived.Test.YtongkiccglaniaaDoorCards
import Derived.Test.YtongkiccglaniaaDoorTabSize
namespace Go.Proofs.YtongkiccglaniaaDoor.tablesWhole
open Go.ChangeShapes Go.WideShapes Go.ChangeAt Go.RowKit
set_option maxRecDepth 100000
theorem lifted (os : Os) (started : os.Started) (H : Type) (enc : TypeId × Value → H) :
    ReturnsInHanded {} Tryd.checked os 10 .any (fun w args => (Rows.tablesWholeSpec.pre enc Tryd.prog Tryd.f10 [] false w args ∧ laidMetH Tryd.prog theLaidF w) ∧ sizedMet enc Tryd.prog Tryd.f10 (OpenSpec.ofChange Rows.tablesWholeSpec) false w args) (Rows.tablesWholeSpec.post enc Tryd.prog Tryd.f10 false true false false) := by
  refine returnsInHanded_of_change_and (C := Tryd.checked) (X := fun w _ => laidMetH Tryd.prog theLaidF w) (fun _ _ _ hh h => h.of_heap hh) Tryd.own started (by kernel_rfl) Tryd.func10
    (ChangeSpec.witness_at (enc := enc) (C := Tryd.checked) (os := os) (X := fun w _ => laidMetH Tryd.prog theLaidF w) false (laidWorldF os) #[.agg #[.slice none 0 0, .int .i64 0, .slice none 0 0, .slice none 0 0], .slice none 0 0, .slice none 0 0] 8 rfl (by kernel_rfl) (by kernel_rfl) (by kernel_rfl) (by kernel_rfl) (by kernel_rfl) (laidWorldF_met os _)) ?_
  intro W base args ds gs before hval0 hW _ hZ hL _
  have hF := forms_of_F hL
  have hval : ∀ (j : Nat) t v, Tryd.f10.params[j]? = some t → args[j]? = some v → Value.okWide Tryd.prog W .any base t v := hval0
  have hW' := hW
  obtain ⟨p, q, hA0, hV, rfl, hfz, hnd⟩ := hW
  have hA : DataW.TrodAll enc Tryd.prog W 0 (fun _ => true) true Tryd.f10.params.toList args.toList ds p := hA0
  rw [Tryd.params10] at hA hval
  obtain ⟨v0, vs0, d0, ds0, p0, q0, hargs, rfl, rfl, h0, r0⟩ := trodAll_cons hA
  obtain ⟨v1, vs1, d1, ds1, p1, q1, rfl, rfl, rfl, h1, r1⟩ := trodAll_cons r0
  obtain ⟨v2, vs2, d2, ds2, p2, q2, rfl, rfl, rfl, h2, r2⟩ := trodAll_cons r1
  obtain ⟨rfl, rfl, rfl⟩ := trodAll_nil r2
  obtain rfl : args = #[v0, v1, v2] := by cases args; simp_all
  obtain ⟨rfl, rfl⟩ := trodVars_none hV
  clear hA0 hval0 hfz hnd
  obtain ⟨m0, rfl, wf0⟩ := open_plan (hval 0 31 v0 rfl rfl) h0
  obtain ⟨A1, c1, l1, rfl, s1, wf1, ok1⟩ := open_spanss (hval 1 91 v1 rfl rfl) h1
  obtain ⟨A2, c2, l2, rfl, s2, wf2, ok2⟩ := open_ints (hval 2 43 v2 rfl rfl) h2
  obtain ⟨zd1, zp1, zh1, zw1⟩ := sized_at hW' hZ (j := 1) (t := 91) (by rw [Tryd.params10]; rfl) rfl
  have hread : Tryd.f10.params.toList.all (fun t => Tryd.prog.readableRec t && decide (t < Tryd.prog.types.size)) = true := by kernel_rfl
  refine (tablesWhole_walk (w := W) hF m0 wf0 A1 c1 l1 s1 wf1 ok1 A2 c2 l2 s2 wf2 ok2 (spanss_sized s1 zh1 zw1)).mono fun e W' ⟨he, hb⟩ => ?_
  subst he
  exact ⟨_, rfl, post_law Tryd.laidOut hW' rfl hread rfl Tryd.underlying4 (by simp [Rows.tablesWholeSpec]) (by simp [Rows.tablesWholeSpec]) (by simp [Rows.tablesWholeSpec]) hb⟩

/-- The given row. -/
theorem row : Rows.TablesWholeSaid :=
  OpenClaim.holds_of_wide 10 Tryd.f10 rfl rfl rfl rfl rfl rfl rfl ⟨rfl, rfl, rfl, rfl, rfl⟩ rfl rfl rfl rfl rfl (by kernel_rfl) Tryd.func10 (by kernel_rfl)
    (of_decide_eq_true (by kernel_rfl)) (by unfold Func.isWrapper; rw [if_neg (of_decide_eq_false (by kernel_rfl))]; exact ⟨rfl, rfl⟩)
    (fun os started H enc _ => lifted os started H enc)
/-- The given statement: the tied card. -/
theorem proved : Rows.TablesWholeCardSaid :=
  Claim7.holds_tied_plain_at .later [] [.widerDeep] true Rows.tablesWholeCard.stood.harness true
    row (fun _ h => by cases h) (by kernel_rfl) (fun _ h => by cases h) tablesWhole_row_tie rfl ⟨rfl, rfl⟩ (by kernel_rfl) rfl
    (fun f fn hf hfn => by
      obtain rfl : f = 10 := Option.some.inj ((show Tryd.prog.funcNamed Rows.tablesWholeRow.func = some 10 by kernel_rfl).symm.trans hf) |>.symm
      obtain rfl : fn = Tryd.f10 := (Option.some.inj (Tryd.func10.symm.trans hfn)).symm
      exact ⟨by kernel_rfl, fun j t ht => by
        rw [Tryd.params10] at ht
        have hm : t ∈ [31, 91, 43] := by have := Array.mem_of_getElem? ht; simpa using this
        have hall : ∀ t ∈ [31, 91, 43], Tryd.prog.wantsStandIn t = false := by decide
        exact hall t hm⟩)
    (by kernel_rfl)
#print axioms proved
end Go.Proofs.YtongkiccglaniaaDoor.tablesWhole
