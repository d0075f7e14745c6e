/- The closed facts of the row of framelaw3.LogKeeps, one by one. Conditions: none. -/
import Derived.Test.YtldllmhgofacbaaGreatDoorCards
import Derived.JoinedOf
import Derived.Test.YtldllmhgofacbaaGreatDoorDoorU
namespace Go.Proofs.YtldllmhgofacbaaGreatDoor.logKeeps
open Go.ChangeShapes Go.WideShapes Go.ChangeAt Go.RowKit
set_option maxRecDepth 100000
theorem j0 : (Rows.logKeepsRow.wf (OpenSpec.ofChange ((OpenSpec.ofChange Rows.logKeepsSpec).bare))) = true := by kernel_rfl
theorem j1 : (laidOutB Tryz.prog) = true := by kernel_rfl
theorem j2 : (mapsRowed Tryz.prog) = true := by kernel_rfl
theorem j3 : (Tryz.f10.params.all (Tryz.prog.readableRec ·)) = true := by kernel_rfl
theorem j4 : (namedTie Tryz.prog Rows.logKeepsRow.named ((OpenSpec.ofChange Rows.logKeepsSpec).bare).vars) = true := by kernel_rfl
theorem j5 : (Rows.logKeepsRow.stops == []) = true := by kernel_rfl
theorem j6 : (Tryz.prog.stops == []) = true := by kernel_rfl
theorem j7 : (Rows.logKeepsRow.knobs == []) = true := by kernel_rfl
theorem j8 : (Tryz.prog.stopKnobs == []) = true := by kernel_rfl
theorem j9 : (Rows.logKeepsRow.inPlace == Tryz.prog.inPlace 10) = true := by kernel_rfl
theorem j10 : (Rows.logKeepsRow.unfollowed == Tryz.prog.unfollowed 10) = true := by kernel_rfl
theorem j11 : (Rows.logKeepsRow.recurses == Tryz.prog.recurses 10) = true := by kernel_rfl
theorem j12 : (Rows.logKeepsRow.named == Tryz.prog.varsNamed 10) = true := by kernel_rfl
theorem j13 : (Rows.logKeepsRow.maps == (Tryz.f10.params.toList ++ ((OpenSpec.ofChange Rows.logKeepsSpec).bare).plain.varTypes Tryz.prog).any (Tryz.prog.mapsRec ·)) = true := by kernel_rfl
theorem j14 : (Rows.logKeepsRow.ifaces == (Tryz.f10.params.toList ++ ((OpenSpec.ofChange Rows.logKeepsSpec).bare).plain.varTypes Tryz.prog).any (Tryz.prog.ifacesRec ·)) = true := by kernel_rfl
theorem j15 : (Rows.logKeepsRow.mapsOut == Tryz.prog.mapsAmong Tryz.f10.resultTypes.toList) = true := by kernel_rfl
theorem j16 : (Rows.logKeepsRow.loops == (Tryz.f10.params.toList ++ ((OpenSpec.ofChange Rows.logKeepsSpec).bare).plain.varTypes Tryz.prog).any (Tryz.prog.loopsFrom ·)) = true := by kernel_rfl
theorem j17 : (Rows.logKeepsRow.wideKeys == (Tryz.f10.params.toList ++ ((OpenSpec.ofChange Rows.logKeepsSpec).bare).plain.varTypes Tryz.prog ++ Tryz.f10.resultTypes.toList).any (Tryz.prog.wideKeysFrom ·)) = true := by kernel_rfl
theorem j18 : (((OpenSpec.ofChange Rows.logKeepsSpec).bare).vars.all (Tryz.prog.varReadable ·)) = true := by kernel_rfl
theorem j19 : (Tryz.f10.resultTypes.all (fun t => Tryz.prog.readableRec t && decide (t < Tryz.prog.types.size))) = true := by kernel_rfl
theorem j20 : (Rows.logKeepsRow.ifacesOut == Tryz.f10.resultTypes.toList.any (Tryz.prog.ifacesRec ·)) = true := by kernel_rfl
theorem j21 : (Rows.logKeepsRow.loopsOut == Tryz.f10.resultTypes.toList.any (Tryz.prog.loopsFrom ·)) = true := by kernel_rfl
theorem j22 : (Rows.logKeepsRow.plainKeys == Tryz.prog.plainKeys) = true := by kernel_rfl
theorem j23 : (Rows.logKeepsRow.shortTexts.isNone) = true := by kernel_rfl
theorem j24 : (Tryz.prog.stopsHeard) = true := by kernel_rfl
theorem j25 : (Tryz.prog.mayEnter) = true := by kernel_rfl
theorem j26 : (Rows.logKeepsRow.lifted == Tryz.prog.liftsFinal) = true := by kernel_rfl
theorem j27 : (Tryz.prog.make == some Rows.logKeepsRow.make) = true := by kernel_rfl
theorem j28 : (Rows.logKeepsRow.kinds == (if Rows.logKeepsRow.domain.isEmpty then [] else Tryz.f10.params.toList.map fun t => match Tryz.prog.underlying t with | some (.int k) => some k | _ => none)) = true := by kernel_rfl
theorem j29 : (Rows.logKeepsRow.pinned == Rows.logKeepsRow.pinnedBy) = true := by kernel_rfl
theorem j30 : (Rows.logKeepsRow.veiled == (Tryz.f10.params.toList ++ ((OpenSpec.ofChange Rows.logKeepsSpec).bare).plain.varTypes Tryz.prog ++ Tryz.f10.resultTypes.toList).any (Tryz.prog.veiledRec ·)) = true := by kernel_rfl
theorem j31 : (Rows.logKeepsRow.veiledFits Tryz.prog Tryz.f10.params.toList (Tryz.f10.params.toList ++ ((OpenSpec.ofChange Rows.logKeepsSpec).bare).plain.varTypes Tryz.prog ++ Tryz.f10.resultTypes.toList)) = true := by kernel_rfl
theorem and_t {a b : Bool} (h : a = true) (k : b = true) : (a && b) = true := by rw [h, k]; rfl
theorem closed : joinedFacts Tryz.prog 10 Tryz.f10 ((OpenSpec.ofChange Rows.logKeepsSpec).bare) Rows.logKeepsRow = true := and_t (and_t (and_t (and_t (and_t (and_t (and_t (and_t (and_t (and_t (and_t (and_t (and_t (and_t (and_t (and_t (and_t (and_t (and_t (and_t (and_t (and_t (and_t (and_t (and_t (and_t (and_t (and_t (and_t (and_t (and_t (j0) j1) j2) j3) j4) j5) j6) j7) j8) j9) j10) j11) j12) j13) j14) j15) j16) j17) j18) j19) j20) j21) j22) j23) j24) j25) j26) j27) j28) j29) j30) j31
theorem named : Tryz.prog.funcNamed Rows.logKeepsRow.func = some 10 := by kernel_rfl
theorem inst : Tryz.f10.isInstance Tryz.prog Rows.logKeepsRow.origin Rows.logKeepsRow.targs := of_decide_eq_true (by kernel_rfl)
theorem wrap : Tryz.f10.isWrapper Tryz.prog Rows.logKeepsRow.wrapper Rows.logKeepsRow.mainSum := by unfold Func.isWrapper; rw [if_neg (of_decide_eq_false (by kernel_rfl))]; exact ⟨rfl, rfl⟩
end Go.Proofs.YtldllmhgofacbaaGreatDoor.logKeeps
