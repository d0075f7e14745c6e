/- The closed facts of the row of framelaw3.RunAnswers, one by one. Conditions: none. -/
import Derived.Test.YthdmgighblhmhaaGreatDoorCards
import Derived.JoinedOf
import Derived.Test.YthdmgighblhmhaaGreatDoorDoorU
namespace Go.Proofs.YthdmgighblhmhaaGreatDoor.runAnswers
open Go.ChangeShapes Go.WideShapes Go.ChangeAt Go.RowKit
set_option maxRecDepth 100000
theorem j0 : (Rows.runAnswersRow.wf (OpenSpec.ofChange ((OpenSpec.ofChange Rows.runAnswersSpec).bare))) = true := by kernel_rfl
theorem j1 : (laidOutB Tryz.prog) = true := by kernel_rfl
theorem j2 : (mapsRowed Tryz.prog) = true := by kernel_rfl
theorem j3 : (Tryz.f3.params.all (Tryz.prog.readableRec ·)) = true := by kernel_rfl
theorem j4 : (namedTie Tryz.prog Rows.runAnswersRow.named ((OpenSpec.ofChange Rows.runAnswersSpec).bare).vars) = true := by kernel_rfl
theorem j5 : (Rows.runAnswersRow.stops == []) = true := by kernel_rfl
theorem j6 : (Tryz.prog.stops == []) = true := by kernel_rfl
theorem j7 : (Rows.runAnswersRow.knobs == []) = true := by kernel_rfl
theorem j8 : (Tryz.prog.stopKnobs == []) = true := by kernel_rfl
theorem j9 : (Rows.runAnswersRow.inPlace == Tryz.prog.inPlace 3) = true := by kernel_rfl
theorem j10 : (Rows.runAnswersRow.unfollowed == Tryz.prog.unfollowed 3) = true := by kernel_rfl
theorem j11 : (Rows.runAnswersRow.recurses == Tryz.prog.recurses 3) = true := by kernel_rfl
theorem j12 : (Rows.runAnswersRow.named == Tryz.prog.varsNamed 3) = true := by kernel_rfl
theorem j13 : (Rows.runAnswersRow.maps == (Tryz.f3.params.toList ++ ((OpenSpec.ofChange Rows.runAnswersSpec).bare).plain.varTypes Tryz.prog).any (Tryz.prog.mapsRec ·)) = true := by kernel_rfl
theorem j14 : (Rows.runAnswersRow.ifaces == (Tryz.f3.params.toList ++ ((OpenSpec.ofChange Rows.runAnswersSpec).bare).plain.varTypes Tryz.prog).any (Tryz.prog.ifacesRec ·)) = true := by kernel_rfl
theorem j15 : (Rows.runAnswersRow.mapsOut == Tryz.prog.mapsAmong Tryz.f3.resultTypes.toList) = true := by kernel_rfl
theorem j16 : (Rows.runAnswersRow.loops == (Tryz.f3.params.toList ++ ((OpenSpec.ofChange Rows.runAnswersSpec).bare).plain.varTypes Tryz.prog).any (Tryz.prog.loopsFrom ·)) = true := by kernel_rfl
theorem j17 : (Rows.runAnswersRow.wideKeys == (Tryz.f3.params.toList ++ ((OpenSpec.ofChange Rows.runAnswersSpec).bare).plain.varTypes Tryz.prog ++ Tryz.f3.resultTypes.toList).any (Tryz.prog.wideKeysFrom ·)) = true := by kernel_rfl
theorem j18 : (((OpenSpec.ofChange Rows.runAnswersSpec).bare).vars.all (Tryz.prog.varReadable ·)) = true := by kernel_rfl
theorem j19 : (Tryz.f3.resultTypes.all (fun t => Tryz.prog.readableRec t && decide (t < Tryz.prog.types.size))) = true := by kernel_rfl
theorem j20 : (Rows.runAnswersRow.ifacesOut == Tryz.f3.resultTypes.toList.any (Tryz.prog.ifacesRec ·)) = true := by kernel_rfl
theorem j21 : (Rows.runAnswersRow.loopsOut == Tryz.f3.resultTypes.toList.any (Tryz.prog.loopsFrom ·)) = true := by kernel_rfl
theorem j22 : (Rows.runAnswersRow.plainKeys == Tryz.prog.plainKeys) = true := by kernel_rfl
theorem j23 : (Rows.runAnswersRow.shortTexts.isNone) = true := by kernel_rfl
theorem j24 : (Tryz.prog.stopsHeard) = true := by kernel_rfl
theorem j25 : (Tryz.prog.mayEnter) = true := by kernel_rfl
theorem j26 : (Rows.runAnswersRow.lifted == Tryz.prog.liftsFinal) = true := by kernel_rfl
theorem j27 : (Tryz.prog.make == some Rows.runAnswersRow.make) = true := by kernel_rfl
theorem j28 : (Rows.runAnswersRow.kinds == (if Rows.runAnswersRow.domain.isEmpty then [] else Tryz.f3.params.toList.map fun t => match Tryz.prog.underlying t with | some (.int k) => some k | _ => none)) = true := by kernel_rfl
theorem j29 : (Rows.runAnswersRow.pinned == Rows.runAnswersRow.pinnedBy) = true := by kernel_rfl
theorem j30 : (Rows.runAnswersRow.veiled == (Tryz.f3.params.toList ++ ((OpenSpec.ofChange Rows.runAnswersSpec).bare).plain.varTypes Tryz.prog ++ Tryz.f3.resultTypes.toList).any (Tryz.prog.veiledRec ·)) = true := by kernel_rfl
theorem j31 : (Rows.runAnswersRow.veiledFits Tryz.prog Tryz.f3.params.toList (Tryz.f3.params.toList ++ ((OpenSpec.ofChange Rows.runAnswersSpec).bare).plain.varTypes Tryz.prog ++ Tryz.f3.resultTypes.toList)) = true := by kernel_rfl
theorem and_t {a b : Bool} (h : a = true) (k : b = true) : (a && b) = true := by rw [h, k]; rfl
theorem closed : joinedFacts Tryz.prog 3 Tryz.f3 ((OpenSpec.ofChange Rows.runAnswersSpec).bare) Rows.runAnswersRow = true := and_t (and_t (and_t (and_t (and_t (and_t (and_t (and_t (and_t (and_t (and_t (and_t (and_t (and_t (and_t (and_t (and_t (and_t (and_t (and_t (and_t (and_t (and_t (and_t (and_t (and_t (and_t (and_t (and_t (and_t (and_t (j0) j1) j2) j3) j4) j5) j6) j7) j8) j9) j10) j11) j12) j13) j14) j15) j16) j17) j18) j19) j20) j21) j22) j23) j24) j25) j26) j27) j28) j29) j30) j31
theorem named : Tryz.prog.funcNamed Rows.runAnswersRow.func = some 3 := by kernel_rfl
theorem inst : Tryz.f3.isInstance Tryz.prog Rows.runAnswersRow.origin Rows.runAnswersRow.targs := of_decide_eq_true (by kernel_rfl)
theorem wrap : Tryz.f3.isWrapper Tryz.prog Rows.runAnswersRow.wrapper Rows.runAnswersRow.mainSum := by unfold Func.isWrapper; rw [if_neg (of_decide_eq_false (by kernel_rfl))]; exact ⟨rfl, rfl⟩
end Go.Proofs.YthdmgighblhmhaaGreatDoor.runAnswers
