/- The closed facts of the row of framelaw3.SnapTells, one by one. Conditions: none. -/
import Derived.Test.YtldllmhgofacbaaGreatDoorCards
import Derived.JoinedOf
import Derived.Test.YtldllmhgofacbaaGreatDoorDoorU
namespace Go.Proofs.YtldllmhgofacbaaGreatDoor.snapTells
open Go.ChangeShapes Go.WideShapes Go.ChangeAt Go.RowKit
set_option maxRecDepth 100000
theorem j0 : (Rows.snapTellsUptoRow.wf (OpenSpec.ofChange ((Rows.OpenSpec.upto Rows.snapTellsSpec).bare))) = true := by kernel_rfl
theorem j1 : (laidOutB Tryz.prog) = true := by kernel_rfl
theorem j2 : (mapsRowed Tryz.prog) = true := by kernel_rfl
theorem j3 : (Tryz.f5.params.all (Tryz.prog.readableRec ·)) = true := by kernel_rfl
theorem j4 : (namedTie Tryz.prog Rows.snapTellsUptoRow.named ((Rows.OpenSpec.upto Rows.snapTellsSpec).bare).vars) = true := by kernel_rfl
theorem j5 : (Rows.snapTellsUptoRow.stops == []) = true := by kernel_rfl
theorem j6 : (Tryz.prog.stops == []) = true := by kernel_rfl
theorem j7 : (Rows.snapTellsUptoRow.knobs == []) = true := by kernel_rfl
theorem j8 : (Tryz.prog.stopKnobs == []) = true := by kernel_rfl
theorem j9 : (Rows.snapTellsUptoRow.inPlace == Tryz.prog.inPlace 5) = true := by kernel_rfl
theorem j10 : (Rows.snapTellsUptoRow.unfollowed == Tryz.prog.unfollowed 5) = true := by kernel_rfl
theorem j11 : (Rows.snapTellsUptoRow.recurses == Tryz.prog.recurses 5) = true := by kernel_rfl
theorem j12 : (Rows.snapTellsUptoRow.named == Tryz.prog.varsNamed 5) = true := by kernel_rfl
theorem j13 : (Rows.snapTellsUptoRow.maps == (Tryz.f5.params.toList ++ ((Rows.OpenSpec.upto Rows.snapTellsSpec).bare).plain.varTypes Tryz.prog).any (Tryz.prog.mapsRec ·)) = true := by kernel_rfl
theorem j14 : (Rows.snapTellsUptoRow.ifaces == (Tryz.f5.params.toList ++ ((Rows.OpenSpec.upto Rows.snapTellsSpec).bare).plain.varTypes Tryz.prog).any (Tryz.prog.ifacesRec ·)) = true := by kernel_rfl
theorem j15 : (Rows.snapTellsUptoRow.mapsOut == Tryz.prog.mapsAmong Tryz.f5.resultTypes.toList) = true := by kernel_rfl
theorem j16 : (Rows.snapTellsUptoRow.loops == (Tryz.f5.params.toList ++ ((Rows.OpenSpec.upto Rows.snapTellsSpec).bare).plain.varTypes Tryz.prog).any (Tryz.prog.loopsFrom ·)) = true := by kernel_rfl
theorem j17 : (Rows.snapTellsUptoRow.wideKeys == (Tryz.f5.params.toList ++ ((Rows.OpenSpec.upto Rows.snapTellsSpec).bare).plain.varTypes Tryz.prog ++ Tryz.f5.resultTypes.toList).any (Tryz.prog.wideKeysFrom ·)) = true := by kernel_rfl
theorem j18 : (((Rows.OpenSpec.upto Rows.snapTellsSpec).bare).vars.all (Tryz.prog.varReadable ·)) = true := by kernel_rfl
theorem j19 : (Tryz.f5.resultTypes.all (fun t => Tryz.prog.readableRec t && decide (t < Tryz.prog.types.size))) = true := by kernel_rfl
theorem j20 : (Rows.snapTellsUptoRow.ifacesOut == Tryz.f5.resultTypes.toList.any (Tryz.prog.ifacesRec ·)) = true := by kernel_rfl
theorem j21 : (Rows.snapTellsUptoRow.loopsOut == Tryz.f5.resultTypes.toList.any (Tryz.prog.loopsFrom ·)) = true := by kernel_rfl
theorem j22 : (Rows.snapTellsUptoRow.plainKeys == Tryz.prog.plainKeys) = true := by kernel_rfl
theorem j23 : (Rows.snapTellsUptoRow.shortTexts.isNone) = true := by kernel_rfl
theorem j24 : (Tryz.prog.stopsHeard) = true := by kernel_rfl
theorem j25 : (Tryz.prog.mayEnter) = true := by kernel_rfl
theorem j26 : (Rows.snapTellsUptoRow.lifted == Tryz.prog.liftsFinal) = true := by kernel_rfl
theorem j27 : (Tryz.prog.make == some Rows.snapTellsUptoRow.make) = true := by kernel_rfl
theorem j28 : (Rows.snapTellsUptoRow.kinds == (if Rows.snapTellsUptoRow.domain.isEmpty then [] else Tryz.f5.params.toList.map fun t => match Tryz.prog.underlying t with | some (.int k) => some k | _ => none)) = true := by kernel_rfl
theorem j29 : (Rows.snapTellsUptoRow.pinned == Rows.snapTellsUptoRow.pinnedBy) = true := by kernel_rfl
theorem j30 : (Rows.snapTellsUptoRow.veiled == (Tryz.f5.params.toList ++ ((Rows.OpenSpec.upto Rows.snapTellsSpec).bare).plain.varTypes Tryz.prog ++ Tryz.f5.resultTypes.toList).any (Tryz.prog.veiledRec ·)) = true := by kernel_rfl
theorem j31 : (Rows.snapTellsUptoRow.veiledFits Tryz.prog Tryz.f5.params.toList (Tryz.f5.params.toList ++ ((Rows.OpenSpec.upto Rows.snapTellsSpec).bare).plain.varTypes Tryz.prog ++ Tryz.f5.resultTypes.toList)) = true := by kernel_rfl
theorem and_t {a b : Bool} (h : a = true) (k : b = true) : (a && b) = true := by rw [h, k]; rfl
theorem closed : joinedFacts Tryz.prog 5 Tryz.f5 ((Rows.OpenSpec.upto Rows.snapTellsSpec).bare) Rows.snapTellsUptoRow = true := and_t (and_t (and_t (and_t (and_t (and_t (and_t (and_t (and_t (and_t (and_t (and_t (and_t (and_t (and_t (and_t (and_t (and_t (and_t (and_t (and_t (and_t (and_t (and_t (and_t (and_t (and_t (and_t (and_t (and_t (and_t (j0) j1) j2) j3) j4) j5) j6) j7) j8) j9) j10) j11) j12) j13) j14) j15) j16) j17) j18) j19) j20) j21) j22) j23) j24) j25) j26) j27) j28) j29) j30) j31
theorem named : Tryz.prog.funcNamed Rows.snapTellsUptoRow.func = some 5 := by kernel_rfl
theorem inst : Tryz.f5.isInstance Tryz.prog Rows.snapTellsUptoRow.origin Rows.snapTellsUptoRow.targs := of_decide_eq_true (by kernel_rfl)
theorem wrap : Tryz.f5.isWrapper Tryz.prog Rows.snapTellsUptoRow.wrapper Rows.snapTellsUptoRow.mainSum := by unfold Func.isWrapper; rw [if_neg (of_decide_eq_false (by kernel_rfl))]; exact ⟨rfl, rfl⟩
end Go.Proofs.YtldllmhgofacbaaGreatDoor.snapTells
