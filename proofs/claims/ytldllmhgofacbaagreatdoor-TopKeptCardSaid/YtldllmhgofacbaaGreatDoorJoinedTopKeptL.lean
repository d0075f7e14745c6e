/- The closed facts of the row of frametop.TopKept, one by one. Conditions: none. -/
import Derived.Test.YtldllmhgofacbaaGreatDoorCards
import Derived.JoinedOf
import Derived.Test.YtldllmhgofacbaaGreatDoorDoorUL
namespace Go.Proofs.YtldllmhgofacbaaGreatDoor.topKept
open Go.ChangeShapes Go.WideShapes Go.ChangeAt Go.RowKit
set_option maxRecDepth 100000
theorem j0 : (Rows.topKeptRow.wf (OpenSpec.ofChange ((OpenSpec.ofChange Rows.topKeptSpec).bare))) = true := by kernel_rfl
theorem j1 : (laidOutB Tryz.prog) = true := by kernel_rfl
theorem j2 : (mapsRowed Tryz.prog) = true := by kernel_rfl
theorem j3 : (Tryz.f11.params.all (Tryz.prog.readableRec ·)) = true := by kernel_rfl
theorem j4 : (namedTie Tryz.prog Rows.topKeptRow.named ((OpenSpec.ofChange Rows.topKeptSpec).bare).vars) = true := by kernel_rfl
theorem j5 : (Rows.topKeptRow.stops == []) = true := by kernel_rfl
theorem j6 : (Tryz.prog.stops == []) = true := by kernel_rfl
theorem j7 : (Rows.topKeptRow.knobs == []) = true := by kernel_rfl
theorem j8 : (Tryz.prog.stopKnobs == []) = true := by kernel_rfl
theorem j9 : (Rows.topKeptRow.inPlace == Tryz.prog.inPlace 11) = true := by kernel_rfl
theorem j10 : (Rows.topKeptRow.unfollowed == Tryz.prog.unfollowed 11) = true := by kernel_rfl
theorem j11 : (Rows.topKeptRow.recurses == Tryz.prog.recurses 11) = true := by kernel_rfl
theorem j12 : (Rows.topKeptRow.named == Tryz.prog.varsNamed 11) = true := by kernel_rfl
theorem j13 : (Rows.topKeptRow.maps == (Tryz.f11.params.toList ++ ((OpenSpec.ofChange Rows.topKeptSpec).bare).plain.varTypes Tryz.prog).any (Tryz.prog.mapsRec ·)) = true := by kernel_rfl
theorem j14 : (Rows.topKeptRow.ifaces == (Tryz.f11.params.toList ++ ((OpenSpec.ofChange Rows.topKeptSpec).bare).plain.varTypes Tryz.prog).any (Tryz.prog.ifacesRec ·)) = true := by kernel_rfl
theorem j15 : (Rows.topKeptRow.mapsOut == Tryz.prog.mapsAmong Tryz.f11.resultTypes.toList) = true := by kernel_rfl
theorem j16 : (Rows.topKeptRow.loops == (Tryz.f11.params.toList ++ ((OpenSpec.ofChange Rows.topKeptSpec).bare).plain.varTypes Tryz.prog).any (Tryz.prog.loopsFrom ·)) = true := by kernel_rfl
theorem j17 : (Rows.topKeptRow.wideKeys == (Tryz.f11.params.toList ++ ((OpenSpec.ofChange Rows.topKeptSpec).bare).plain.varTypes Tryz.prog ++ Tryz.f11.resultTypes.toList).any (Tryz.prog.wideKeysFrom ·)) = true := by kernel_rfl
theorem j18 : (((OpenSpec.ofChange Rows.topKeptSpec).bare).vars.all (Tryz.prog.varReadable ·)) = true := by kernel_rfl
theorem j19 : (Tryz.f11.resultTypes.all (fun t => Tryz.prog.readableRec t && decide (t < Tryz.prog.types.size))) = true := by kernel_rfl
theorem j20 : (Rows.topKeptRow.ifacesOut == Tryz.f11.resultTypes.toList.any (Tryz.prog.ifacesRec ·)) = true := by kernel_rfl
theorem j21 : (Rows.topKeptRow.loopsOut == Tryz.f11.resultTypes.toList.any (Tryz.prog.loopsFrom ·)) = true := by kernel_rfl
theorem j22 : (Rows.topKeptRow.plainKeys == Tryz.prog.plainKeys) = true := by kernel_rfl
theorem j23 : (Rows.topKeptRow.shortTexts.isNone) = true := by kernel_rfl
theorem j24 : (Tryz.prog.stopsHeard) = true := by kernel_rfl
theorem j25 : (Tryz.prog.mayEnter) = true := by kernel_rfl
theorem j26 : (Rows.topKeptRow.lifted == Tryz.prog.liftsFinal) = true := by kernel_rfl
theorem j27 : (Tryz.prog.make == some Rows.topKeptRow.make) = true := by kernel_rfl
theorem j28 : (Rows.topKeptRow.kinds == (if Rows.topKeptRow.domain.isEmpty then [] else Tryz.f11.params.toList.map fun t => match Tryz.prog.underlying t with | some (.int k) => some k | _ => none)) = true := by kernel_rfl
theorem j29 : (Rows.topKeptRow.pinned == Rows.topKeptRow.pinnedBy) = true := by kernel_rfl
theorem j30 : (Rows.topKeptRow.veiled == (Tryz.f11.params.toList ++ ((OpenSpec.ofChange Rows.topKeptSpec).bare).plain.varTypes Tryz.prog ++ Tryz.f11.resultTypes.toList).any (Tryz.prog.veiledRec ·)) = true := by kernel_rfl
theorem j31 : (Rows.topKeptRow.veiledFits Tryz.prog Tryz.f11.params.toList (Tryz.f11.params.toList ++ ((OpenSpec.ofChange Rows.topKeptSpec).bare).plain.varTypes Tryz.prog ++ Tryz.f11.resultTypes.toList)) = true := by kernel_rfl
theorem and_t {a b : Bool} (h : a = true) (k : b = true) : (a && b) = true := by rw [h, k]; rfl
theorem closed : joinedFacts Tryz.prog 11 Tryz.f11 ((OpenSpec.ofChange Rows.topKeptSpec).bare) Rows.topKeptRow = true := and_t (and_t (and_t (and_t (and_t (and_t (and_t (and_t (and_t (and_t (and_t (and_t (and_t (and_t (and_t (and_t (and_t (and_t (and_t (and_t (and_t (and_t (and_t (and_t (and_t (and_t (and_t (and_t (and_t (and_t (and_t (j0) j1) j2) j3) j4) j5) j6) j7) j8) j9) j10) j11) j12) j13) j14) j15) j16) j17) j18) j19) j20) j21) j22) j23) j24) j25) j26) j27) j28) j29) j30) j31
theorem named : Tryz.prog.funcNamed Rows.topKeptRow.func = some 11 := by kernel_rfl
theorem inst : Tryz.f11.isInstance Tryz.prog Rows.topKeptRow.origin Rows.topKeptRow.targs := of_decide_eq_true (by kernel_rfl)
theorem wrap : Tryz.f11.isWrapper Tryz.prog Rows.topKeptRow.wrapper Rows.topKeptRow.mainSum := by unfold Func.isWrapper; rw [if_neg (of_decide_eq_false (by kernel_rfl))]; exact ⟨rfl, rfl⟩
end Go.Proofs.YtldllmhgofacbaaGreatDoor.topKept
