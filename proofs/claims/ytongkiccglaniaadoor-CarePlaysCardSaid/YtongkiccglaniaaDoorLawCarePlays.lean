/- The statement on framelaw2.CarePlays: its walk, the frame that makes the given row of it, and the tied card. Conditions: none beyond the given card's. -/
import Derived.Test.YtongkiccglaniaaDoorCarePlaysWalk
import Derived.Test.YtongkiccglaniaaDoorDoorF
import Derived.Test.YtongkiccglaniaaDoorOpen
import Derived.Test.YtongkiccglaniaaDoorCards
namespace Go.Proofs.YtongkiccglaniaaDoor.carePlays
open Go.ChangeShapes Go.WideShapes Go.ChangeAt Go.RowKit
set_option maxRecDepth 100000
theorem ints_flat (l : List Int) : ints l = l.flatMap fun a => [Value.int .i64 a] := by
  unfold ints
  induction l with
  | nil => rfl
  | cons a t ih => simp only [List.map_cons, List.flatMap_cons, ih, List.singleton_append]
theorem lifted (os : Os) (started : os.Started) (H : Type) (enc : TypeId × Value → H) :
    ReturnsInHanded {} Tryd.checked os 15 .any (fun w args => (Rows.carePlaysSpec.pre enc Tryd.prog Tryd.f15 [] false w args ∧ laidMetH Tryd.prog theLaidEF w) ∧ sizedMet enc Tryd.prog Tryd.f15 (OpenSpec.ofChange Rows.carePlaysSpec) false w args) (Rows.carePlaysSpec.post enc Tryd.prog Tryd.f15 false true false false) := by
  refine returnsInHanded_of_change_and (C := Tryd.checked) (X := fun w _ => laidMetH Tryd.prog theLaidEF w) (fun _ _ _ hh h => h.of_heap hh) Tryd.own started (by kernel_rfl) Tryd.func15
    (ChangeSpec.witness_at (enc := enc) (C := Tryd.checked) (os := os) (X := fun w _ => laidMetH Tryd.prog theLaidEF w) false (laidWorldEF os) #[.agg #[.slice none 0 0, .int .i64 0, .slice none 0 0, .slice none 0 0], .slice none 0 0, .int .i64 0, .int .i64 0, .int .i64 0] 8 rfl (by kernel_rfl) (by kernel_rfl) (by kernel_rfl) (by kernel_rfl) (by kernel_rfl) (laidWorldEF_met os _)) ?_
  intro W base args ds gs before hval0 hW _ _ hL _
  have hG := handle_of_EF hL
  have hF := forms_of_EF hL
  have hval : ∀ (j : Nat) t v, Tryd.f15.params[j]? = some t → args[j]? = some v → Value.okWide Tryd.prog W .any base t v := hval0
  have hW' := hW
  obtain ⟨p, q, hA0, hV, rfl, hfz, hnd⟩ := hW
  have hA : DataW.TrodAll enc Tryd.prog W 0 (fun _ => true) true Tryd.f15.params.toList args.toList ds p := hA0
  rw [Tryd.params15] at hA hval
  obtain ⟨v0, vs0, d0, ds0, p0, q0, hargs, rfl, rfl, h0, r0⟩ := trodAll_cons hA
  obtain ⟨v1, vs1, d1, ds1, p1, q1, rfl, rfl, rfl, h1, r1⟩ := trodAll_cons r0
  obtain ⟨v2, vs2, d2, ds2, p2, q2, rfl, rfl, rfl, h2, r2⟩ := trodAll_cons r1
  obtain ⟨v3, vs3, d3, ds3, p3, q3, rfl, rfl, rfl, h3, r3⟩ := trodAll_cons r2
  obtain ⟨v4, vs4, d4, ds4, p4, q4, rfl, rfl, rfl, h4, r4⟩ := trodAll_cons r3
  obtain ⟨rfl, rfl, rfl⟩ := trodAll_nil r4
  obtain rfl : args = #[v0, v1, v2, v3, v4] := by cases args; simp_all
  obtain ⟨rfl, rfl⟩ := trodVars_none hV
  clear hA0 hval0 hfz hnd
  obtain ⟨m0, rfl, wf0⟩ := open_plan (hval 0 31 v0 rfl rfl) h0
  obtain ⟨A1, c1, l1, rfl, s1, wf1, ok1⟩ := open_ints (hval 1 43 v1 rfl rfl) h1
  obtain ⟨a2, rfl, rfl, rfl, wf2⟩ := open_int Tryd.underlying3 (hval 2 3 v2 rfl rfl) h2
  obtain ⟨a3, rfl, rfl, rfl, wf3⟩ := open_int Tryd.underlying3 (hval 3 3 v3 rfl rfl) h3
  obtain ⟨a4, rfl, rfl, rfl, wf4⟩ := open_int Tryd.underlying3 (hval 4 3 v4 rfl rfl) h4
  have hread : Tryd.f15.params.toList.all (fun t => Tryd.prog.readableRec t && decide (t < Tryd.prog.types.size)) = true := by kernel_rfl
  refine (carePlays_walk (w := W) hG hF m0 wf0 A1 c1 l1 (by rw [ints_flat]; exact s1) wf1 a2 a3 a4).mono fun e W' ⟨he, hb⟩ => ?_
  subst he
  exact ⟨_, rfl, post_law Tryd.laidOut hW' rfl hread rfl Tryd.underlying4 (by simp [Rows.carePlaysSpec]) (by simp [Rows.carePlaysSpec]) (by simp [Rows.carePlaysSpec]) hb⟩

/-- The given row. -/
theorem row : Rows.CarePlaysSaid :=
  OpenClaim.holds_of_wide 15 Tryd.f15 rfl rfl rfl rfl rfl rfl rfl ⟨rfl, rfl, rfl, rfl, rfl⟩ rfl rfl rfl rfl rfl (by kernel_rfl) Tryd.func15 (by kernel_rfl)
    (of_decide_eq_true (by kernel_rfl)) (by unfold Func.isWrapper; rw [if_neg (of_decide_eq_false (by kernel_rfl))]; exact ⟨rfl, rfl⟩)
    (fun os started H enc _ => lifted os started H enc)
/-- The given statement: the tied card. -/
theorem proved : Rows.CarePlaysCardSaid :=
  Claim7.holds_tied_plain_at .later [] [.handle, .widerDeep] true Rows.carePlaysCard.stood.harness true
    row (fun _ h => by cases h) (by kernel_rfl) (fun _ h => by cases h) carePlays_row_tie rfl ⟨rfl, rfl⟩ (by kernel_rfl) rfl
    (fun f fn hf hfn => by
      obtain rfl : f = 15 := Option.some.inj ((show Tryd.prog.funcNamed Rows.carePlaysRow.func = some 15 by kernel_rfl).symm.trans hf) |>.symm
      obtain rfl : fn = Tryd.f15 := (Option.some.inj (Tryd.func15.symm.trans hfn)).symm
      exact ⟨by kernel_rfl, fun j t ht => by
        rw [Tryd.params15] at ht
        have hm : t ∈ [31, 43, 3, 3, 3] := by have := Array.mem_of_getElem? ht; simpa using this
        have hall : ∀ t ∈ [31, 43, 3, 3, 3], Tryd.prog.wantsStandIn t = false := by decide
        exact hall t hm⟩)
    (by kernel_rfl)
#print axioms proved
end Go.Proofs.YtongkiccglaniaaDoor.carePlays
