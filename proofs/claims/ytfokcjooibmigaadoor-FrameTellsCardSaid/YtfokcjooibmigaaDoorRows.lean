/-
  NARROWER THAN 'FOR EVERY INPUT', by the rows' own cells (each row's printed sentence says how): WirePlays: laid · FlowTells: laid · FrameTells: laid · FrameAgain: laid · LevelsNone: laid · LevelsTell: laid · SupplyAll: laid · SupplyTells: laid.
  DERIVED. THE GIVEN ROWS OF THIS SEAT. 8 by the template 'for every input the law returns true; each argument reads behind the call as it read before'; 0 by the template 'total and deterministic' (their statements: YtfokcjooibmigaaDoorTotals.lean).
  GIVEN WITH THE SEED: the statements are not yours to turn. If you find one false, say at which input.
  Laid BY PROGRAM, IN A SANDBOX (cutbox-rows.mjs): the forced cells as the released guide's own fill.sh prints them over the translation b108f46e92adb4b6… (all of the seat's roots in one cut). By AI agents, Wed Nov 11 2026. No macro, syntax, notation, axiom, sorry.
-/
import Derived.Test.YtfokcjooibmigaaDoorChecked
import GoSem.Claim
import GoSem.ClaimJoined
import GoSem.ClaimMapViews
import Derived.JoinedTies
import Derived.KernelRfl
namespace Go.Proofs.YtfokcjooibmigaaDoor
/- THE CELL 'sum', in the pinned program and in every row, IS THE sha256 OF THE DUMP (.gsa) THAT YtfokcjooibmigaaDoorProg.lean LOADS. Nothing in Lean hashes anything: it is a label: what it is worth is what the hold of that sum in a sandbox is worth. -/
noncomputable def Tryd.pinned : Pinned := { name := "ytfokcjooibmigaadoor", sum := "b108f46e92adb4b6966880eaf173ddf1b39680efef60ca31dd2db9ae227a794e", checked := Tryd.checked }
namespace Rows
def none {H : Type} : Left H := { results := [], args := [] }

/- WHAT THE LISTED PACKAGE-LEVEL VARIABLES READ AS WHEN THE CALL BEGINS. Each datum BY PROGRAM (the guide's laid-datum.mjs) off the statement by which the dump's own 'gosem.cut.vars' lays the variable. In a bare row this is a premise. The card (YtfokcjooibmigaaDoorCards.lean) ties it to the program's text. -/
def laid_errors_errorType {H : Type} : DataW H := .iface "internal/reflectlite.rtype" (.agg [.ptr (.lit (.string [101, 114, 114, 111, 114]))])

/-- 'framelaw1.WirePlays': WHATEVER THE INPUT: true; the input reads as it did. -/
def wirePlaysSpec : ChangeSpec := { name := "wirePlays", fn := fun _ => fun
  | [d1, d2] => { results := [.lit (.bool true)], args := [d1, d2] }
  | _ => none }
def wirePlaysRow : OpenClaim := { program := "ytfokcjooibmigaadoor", sum := "b108f46e92adb4b6966880eaf173ddf1b39680efef60ca31dd2db9ae227a794e", func := "framekeep/framelaw1.WirePlays", spec := "wirePlays", inPlace := ["internal/reflectlite.ValueOf", "(internal/reflectlite.Value).Type", "(internal/reflectlite.Value).IsNil", "internal/reflectlite.TypeOf", "(internal/reflectlite.Value).Elem", "(internal/reflectlite.Value).Set"], unfollowed := true, recurses := true, named := ["errors.errorType"], apart := false, laid := [("errors.errorType", laid_errors_errorType)] }
def WirePlaysSaid : Prop := wirePlaysRow.holds Tryd.pinned (OpenSpec.ofChange wirePlaysSpec)

/-- ITS FALSE NEIGHBOUR: 'it returns false'. Refute it at one input. -/
def wirePlaysWrong : ChangeSpec := { name := "wirePlays", fn := fun _ => fun
  | [d1, d2] => { results := [.lit (.bool false)], args := [d1, d2] }
  | _ => none }
def WirePlaysWrongFalsely : Prop := wirePlaysRow.holds Tryd.pinned (OpenSpec.ofChange wirePlaysWrong)

/-- 'framelaw1.FlowTells': WHATEVER THE INPUT: true; the input reads as it did. -/
def flowTellsSpec : ChangeSpec := { name := "flowTells", fn := fun _ => fun
  | [d1, d2, d3, d4] => { results := [.lit (.bool true)], args := [d1, d2, d3, d4] }
  | _ => none }
def flowTellsRow : OpenClaim := { program := "ytfokcjooibmigaadoor", sum := "b108f46e92adb4b6966880eaf173ddf1b39680efef60ca31dd2db9ae227a794e", func := "framekeep/framelaw1.FlowTells", spec := "flowTells", inPlace := ["internal/reflectlite.ValueOf", "(internal/reflectlite.Value).Type", "(internal/reflectlite.Value).IsNil", "internal/reflectlite.TypeOf", "(internal/reflectlite.Value).Elem", "(internal/reflectlite.Value).Set"], unfollowed := true, recurses := true, named := ["errors.errorType"], apart := false, laid := [("errors.errorType", laid_errors_errorType)] }
def FlowTellsSaid : Prop := flowTellsRow.holds Tryd.pinned (OpenSpec.ofChange flowTellsSpec)

/-- ITS FALSE NEIGHBOUR: 'it returns false'. Refute it at one input. -/
def flowTellsWrong : ChangeSpec := { name := "flowTells", fn := fun _ => fun
  | [d1, d2, d3, d4] => { results := [.lit (.bool false)], args := [d1, d2, d3, d4] }
  | _ => none }
def FlowTellsWrongFalsely : Prop := flowTellsRow.holds Tryd.pinned (OpenSpec.ofChange flowTellsWrong)

/-- 'framelaw1.FrameTells': WHATEVER THE INPUT: true; the input reads as it did. -/
def frameTellsSpec : ChangeSpec := { name := "frameTells", fn := fun _ => fun
  | [d1, d2, d3, d4] => { results := [.lit (.bool true)], args := [d1, d2, d3, d4] }
  | _ => none }
def frameTellsRow : OpenClaim := { program := "ytfokcjooibmigaadoor", sum := "b108f46e92adb4b6966880eaf173ddf1b39680efef60ca31dd2db9ae227a794e", func := "framekeep/framelaw1.FrameTells", spec := "frameTells", inPlace := ["internal/reflectlite.ValueOf", "(internal/reflectlite.Value).Type", "(internal/reflectlite.Value).IsNil", "internal/reflectlite.TypeOf", "(internal/reflectlite.Value).Elem", "(internal/reflectlite.Value).Set"], unfollowed := true, recurses := true, named := ["errors.errorType"], apart := false, laid := [("errors.errorType", laid_errors_errorType)] }
def FrameTellsSaid : Prop := frameTellsRow.holds Tryd.pinned (OpenSpec.ofChange frameTellsSpec)

/-- ITS FALSE NEIGHBOUR: 'it returns false'. Refute it at one input. -/
def frameTellsWrong : ChangeSpec := { name := "frameTells", fn := fun _ => fun
  | [d1, d2, d3, d4] => { results := [.lit (.bool false)], args := [d1, d2, d3, d4] }
  | _ => none }
def FrameTellsWrongFalsely : Prop := frameTellsRow.holds Tryd.pinned (OpenSpec.ofChange frameTellsWrong)

/-- 'framelaw1.FrameAgain': WHATEVER THE INPUT: true; the input reads as it did. -/
def frameAgainSpec : ChangeSpec := { name := "frameAgain", fn := fun _ => fun
  | [d1, d2, d3, d4] => { results := [.lit (.bool true)], args := [d1, d2, d3, d4] }
  | _ => none }
def frameAgainRow : OpenClaim := { program := "ytfokcjooibmigaadoor", sum := "b108f46e92adb4b6966880eaf173ddf1b39680efef60ca31dd2db9ae227a794e", func := "framekeep/framelaw1.FrameAgain", spec := "frameAgain", inPlace := ["internal/reflectlite.ValueOf", "(internal/reflectlite.Value).Type", "(internal/reflectlite.Value).IsNil", "internal/reflectlite.TypeOf", "(internal/reflectlite.Value).Elem", "(internal/reflectlite.Value).Set"], unfollowed := true, recurses := true, named := ["errors.errorType"], apart := false, laid := [("errors.errorType", laid_errors_errorType)] }
def FrameAgainSaid : Prop := frameAgainRow.holds Tryd.pinned (OpenSpec.ofChange frameAgainSpec)

/-- ITS FALSE NEIGHBOUR: 'it returns false'. Refute it at one input. -/
def frameAgainWrong : ChangeSpec := { name := "frameAgain", fn := fun _ => fun
  | [d1, d2, d3, d4] => { results := [.lit (.bool false)], args := [d1, d2, d3, d4] }
  | _ => none }
def FrameAgainWrongFalsely : Prop := frameAgainRow.holds Tryd.pinned (OpenSpec.ofChange frameAgainWrong)

/-- 'framelaw4.LevelsNone': WHATEVER THE INPUT: true; the input reads as it did. -/
def levelsNoneSpec : ChangeSpec := { name := "levelsNone", fn := fun _ => fun
  | [d1, d2] => { results := [.lit (.bool true)], args := [d1, d2] }
  | _ => none }
def levelsNoneRow : OpenClaim := { program := "ytfokcjooibmigaadoor", sum := "b108f46e92adb4b6966880eaf173ddf1b39680efef60ca31dd2db9ae227a794e", func := "framekeep/framelaw4.LevelsNone", spec := "levelsNone", inPlace := ["internal/reflectlite.ValueOf", "(internal/reflectlite.Value).Type", "(internal/reflectlite.Value).IsNil", "internal/reflectlite.TypeOf", "(internal/reflectlite.Value).Elem", "(internal/reflectlite.Value).Set"], unfollowed := true, recurses := true, named := ["errors.errorType"], apart := false, laid := [("errors.errorType", laid_errors_errorType)] }
def LevelsNoneSaid : Prop := levelsNoneRow.holds Tryd.pinned (OpenSpec.ofChange levelsNoneSpec)

/-- ITS FALSE NEIGHBOUR: 'it returns false'. Refute it at one input. -/
def levelsNoneWrong : ChangeSpec := { name := "levelsNone", fn := fun _ => fun
  | [d1, d2] => { results := [.lit (.bool false)], args := [d1, d2] }
  | _ => none }
def LevelsNoneWrongFalsely : Prop := levelsNoneRow.holds Tryd.pinned (OpenSpec.ofChange levelsNoneWrong)

/-- 'framelaw2.LevelsTell': WHATEVER THE INPUT: true; the input reads as it did. -/
def levelsTellSpec : ChangeSpec := { name := "levelsTell", fn := fun _ => fun
  | [d1, d2, d3] => { results := [.lit (.bool true)], args := [d1, d2, d3] }
  | _ => none }
def levelsTellRow : OpenClaim := { program := "ytfokcjooibmigaadoor", sum := "b108f46e92adb4b6966880eaf173ddf1b39680efef60ca31dd2db9ae227a794e", func := "framekeep/framelaw2.LevelsTell", spec := "levelsTell", inPlace := ["internal/reflectlite.ValueOf", "(internal/reflectlite.Value).Type", "(internal/reflectlite.Value).IsNil", "internal/reflectlite.TypeOf", "(internal/reflectlite.Value).Elem", "(internal/reflectlite.Value).Set"], unfollowed := true, recurses := true, named := ["errors.errorType"], apart := false, laid := [("errors.errorType", laid_errors_errorType)] }
def LevelsTellSaid : Prop := levelsTellRow.holds Tryd.pinned (OpenSpec.ofChange levelsTellSpec)

/-- ITS FALSE NEIGHBOUR: 'it returns false'. Refute it at one input. -/
def levelsTellWrong : ChangeSpec := { name := "levelsTell", fn := fun _ => fun
  | [d1, d2, d3] => { results := [.lit (.bool false)], args := [d1, d2, d3] }
  | _ => none }
def LevelsTellWrongFalsely : Prop := levelsTellRow.holds Tryd.pinned (OpenSpec.ofChange levelsTellWrong)

/-- 'framelaw4.SupplyAll': WHATEVER THE INPUT: true; the input reads as it did. -/
def supplyAllSpec : ChangeSpec := { name := "supplyAll", fn := fun _ => fun
  | [d1, d2] => { results := [.lit (.bool true)], args := [d1, d2] }
  | _ => none }
def supplyAllRow : OpenClaim := { program := "ytfokcjooibmigaadoor", sum := "b108f46e92adb4b6966880eaf173ddf1b39680efef60ca31dd2db9ae227a794e", func := "framekeep/framelaw4.SupplyAll", spec := "supplyAll", inPlace := ["internal/reflectlite.ValueOf", "(internal/reflectlite.Value).Type", "(internal/reflectlite.Value).IsNil", "internal/reflectlite.TypeOf", "(internal/reflectlite.Value).Elem", "(internal/reflectlite.Value).Set"], unfollowed := true, recurses := true, named := ["errors.errorType"], apart := false, laid := [("errors.errorType", laid_errors_errorType)] }
def SupplyAllSaid : Prop := supplyAllRow.holds Tryd.pinned (OpenSpec.ofChange supplyAllSpec)

/-- ITS FALSE NEIGHBOUR: 'it returns false'. Refute it at one input. -/
def supplyAllWrong : ChangeSpec := { name := "supplyAll", fn := fun _ => fun
  | [d1, d2] => { results := [.lit (.bool false)], args := [d1, d2] }
  | _ => none }
def SupplyAllWrongFalsely : Prop := supplyAllRow.holds Tryd.pinned (OpenSpec.ofChange supplyAllWrong)

/-- 'framelaw3.SupplyTells': WHATEVER THE INPUT: true; the input reads as it did. -/
def supplyTellsSpec : ChangeSpec := { name := "supplyTells", fn := fun _ => fun
  | [d1, d2, d3, d4, d5, d6] => { results := [.lit (.bool true)], args := [d1, d2, d3, d4, d5, d6] }
  | _ => none }
def supplyTellsRow : OpenClaim := { program := "ytfokcjooibmigaadoor", sum := "b108f46e92adb4b6966880eaf173ddf1b39680efef60ca31dd2db9ae227a794e", func := "framekeep/framelaw3.SupplyTells", spec := "supplyTells", inPlace := ["internal/reflectlite.ValueOf", "(internal/reflectlite.Value).Type", "(internal/reflectlite.Value).IsNil", "internal/reflectlite.TypeOf", "(internal/reflectlite.Value).Elem", "(internal/reflectlite.Value).Set"], unfollowed := true, recurses := true, named := ["errors.errorType"], apart := false, laid := [("errors.errorType", laid_errors_errorType)] }
def SupplyTellsSaid : Prop := supplyTellsRow.holds Tryd.pinned (OpenSpec.ofChange supplyTellsSpec)

/-- ITS FALSE NEIGHBOUR: 'it returns false'. Refute it at one input. -/
def supplyTellsWrong : ChangeSpec := { name := "supplyTells", fn := fun _ => fun
  | [d1, d2, d3, d4, d5, d6] => { results := [.lit (.bool false)], args := [d1, d2, d3, d4, d5, d6] }
  | _ => none }
def SupplyTellsWrongFalsely : Prop := supplyTellsRow.holds Tryd.pinned (OpenSpec.ofChange supplyTellsWrong)

/- THE SECOND FORM. 'bulk': how many values and letters a reading holds, each counted each time it is reached (what is shared counts as often as it is met; a slice's spare places count too). A statement '..UptoSaid' is the law's where the arguments, and the package variables that the reading takes, are together of bulk at most 1048576: NARROWER than '..Said'. Prove '..Said' where nothing that the law and all that it calls make is longer than what came in: it says more and counts as full. Else prove '..UptoSaid'. A law counts once. -/
mutual
def uptoBulk {H : Type} : DataW H → Nat
  | .lit (.string bytes) => bytes.length + 1
  | .lit _ => 1
  | .nil => 1
  | .ptr d => uptoBulk d + 1
  | .slice elems spare => uptoBulkAll elems + uptoBulkAll spare + 1
  | .agg parts => uptoBulkAll parts + 1
  | .iface _ d => uptoBulk d + 1
  | .map entries => uptoBulkEntries entries + 1
  | .held _ => 1
def uptoBulkAll {H : Type} : List (DataW H) → Nat
  | [] => 0
  | d :: r => uptoBulk d + uptoBulkAll r
def uptoBulkEntries {H : Type} : List (Lit × DataW H) → Nat
  | [] => 0
  | x :: r => uptoBulkEntry x + uptoBulkEntries r
def uptoBulkEntry {H : Type} : Lit × DataW H → Nat
  | (.string bytes, d) => bytes.length + uptoBulk d + 1
  | (_, d) => uptoBulk d + 1
 end
def uptoSmall : (H : Type) → List (DataW H) → Bool := fun _ ds => decide (uptoBulkAll ds ≤ 1048576)
def OpenSpec.upto (s : _root_.Go.ChangeSpec) : _root_.Go.OpenSpec := { _root_.Go.OpenSpec.ofChange s with cond := some uptoSmall }

/-- 'framelaw1.WirePlays', WHERE WHAT IT READS IS OF BULK AT MOST 1048576: true; the input reads as it did. -/
def wirePlaysUptoRow : OpenClaim := { program := "ytfokcjooibmigaadoor", sum := "b108f46e92adb4b6966880eaf173ddf1b39680efef60ca31dd2db9ae227a794e", func := "framekeep/framelaw1.WirePlays", spec := "wirePlays", inPlace := ["internal/reflectlite.ValueOf", "(internal/reflectlite.Value).Type", "(internal/reflectlite.Value).IsNil", "internal/reflectlite.TypeOf", "(internal/reflectlite.Value).Elem", "(internal/reflectlite.Value).Set"], unfollowed := true, recurses := true, named := ["errors.errorType"], apart := false, laid := [("errors.errorType", laid_errors_errorType)], narrowed := true }
def WirePlaysUptoSaid : Prop := wirePlaysUptoRow.holds Tryd.pinned (OpenSpec.upto wirePlaysSpec)

/-- 'framelaw1.FlowTells', WHERE WHAT IT READS IS OF BULK AT MOST 1048576: true; the input reads as it did. -/
def flowTellsUptoRow : OpenClaim := { program := "ytfokcjooibmigaadoor", sum := "b108f46e92adb4b6966880eaf173ddf1b39680efef60ca31dd2db9ae227a794e", func := "framekeep/framelaw1.FlowTells", spec := "flowTells", inPlace := ["internal/reflectlite.ValueOf", "(internal/reflectlite.Value).Type", "(internal/reflectlite.Value).IsNil", "internal/reflectlite.TypeOf", "(internal/reflectlite.Value).Elem", "(internal/reflectlite.Value).Set"], unfollowed := true, recurses := true, named := ["errors.errorType"], apart := false, laid := [("errors.errorType", laid_errors_errorType)], narrowed := true }
def FlowTellsUptoSaid : Prop := flowTellsUptoRow.holds Tryd.pinned (OpenSpec.upto flowTellsSpec)

/-- 'framelaw1.FrameTells', WHERE WHAT IT READS IS OF BULK AT MOST 1048576: true; the input reads as it did. -/
def frameTellsUptoRow : OpenClaim := { program := "ytfokcjooibmigaadoor", sum := "b108f46e92adb4b6966880eaf173ddf1b39680efef60ca31dd2db9ae227a794e", func := "framekeep/framelaw1.FrameTells", spec := "frameTells", inPlace := ["internal/reflectlite.ValueOf", "(internal/reflectlite.Value).Type", "(internal/reflectlite.Value).IsNil", "internal/reflectlite.TypeOf", "(internal/reflectlite.Value).Elem", "(internal/reflectlite.Value).Set"], unfollowed := true, recurses := true, named := ["errors.errorType"], apart := false, laid := [("errors.errorType", laid_errors_errorType)], narrowed := true }
def FrameTellsUptoSaid : Prop := frameTellsUptoRow.holds Tryd.pinned (OpenSpec.upto frameTellsSpec)

/-- 'framelaw1.FrameAgain', WHERE WHAT IT READS IS OF BULK AT MOST 1048576: true; the input reads as it did. -/
def frameAgainUptoRow : OpenClaim := { program := "ytfokcjooibmigaadoor", sum := "b108f46e92adb4b6966880eaf173ddf1b39680efef60ca31dd2db9ae227a794e", func := "framekeep/framelaw1.FrameAgain", spec := "frameAgain", inPlace := ["internal/reflectlite.ValueOf", "(internal/reflectlite.Value).Type", "(internal/reflectlite.Value).IsNil", "internal/reflectlite.TypeOf", "(internal/reflectlite.Value).Elem", "(internal/reflectlite.Value).Set"], unfollowed := true, recurses := true, named := ["errors.errorType"], apart := false, laid := [("errors.errorType", laid_errors_errorType)], narrowed := true }
def FrameAgainUptoSaid : Prop := frameAgainUptoRow.holds Tryd.pinned (OpenSpec.upto frameAgainSpec)

/-- 'framelaw4.LevelsNone', WHERE WHAT IT READS IS OF BULK AT MOST 1048576: true; the input reads as it did. -/
def levelsNoneUptoRow : OpenClaim := { program := "ytfokcjooibmigaadoor", sum := "b108f46e92adb4b6966880eaf173ddf1b39680efef60ca31dd2db9ae227a794e", func := "framekeep/framelaw4.LevelsNone", spec := "levelsNone", inPlace := ["internal/reflectlite.ValueOf", "(internal/reflectlite.Value).Type", "(internal/reflectlite.Value).IsNil", "internal/reflectlite.TypeOf", "(internal/reflectlite.Value).Elem", "(internal/reflectlite.Value).Set"], unfollowed := true, recurses := true, named := ["errors.errorType"], apart := false, laid := [("errors.errorType", laid_errors_errorType)], narrowed := true }
def LevelsNoneUptoSaid : Prop := levelsNoneUptoRow.holds Tryd.pinned (OpenSpec.upto levelsNoneSpec)

/-- 'framelaw2.LevelsTell', WHERE WHAT IT READS IS OF BULK AT MOST 1048576: true; the input reads as it did. -/
def levelsTellUptoRow : OpenClaim := { program := "ytfokcjooibmigaadoor", sum := "b108f46e92adb4b6966880eaf173ddf1b39680efef60ca31dd2db9ae227a794e", func := "framekeep/framelaw2.LevelsTell", spec := "levelsTell", inPlace := ["internal/reflectlite.ValueOf", "(internal/reflectlite.Value).Type", "(internal/reflectlite.Value).IsNil", "internal/reflectlite.TypeOf", "(internal/reflectlite.Value).Elem", "(internal/reflectlite.Value).Set"], unfollowed := true, recurses := true, named := ["errors.errorType"], apart := false, laid := [("errors.errorType", laid_errors_errorType)], narrowed := true }
def LevelsTellUptoSaid : Prop := levelsTellUptoRow.holds Tryd.pinned (OpenSpec.upto levelsTellSpec)

/-- 'framelaw4.SupplyAll', WHERE WHAT IT READS IS OF BULK AT MOST 1048576: true; the input reads as it did. -/
def supplyAllUptoRow : OpenClaim := { program := "ytfokcjooibmigaadoor", sum := "b108f46e92adb4b6966880eaf173ddf1b39680efef60ca31dd2db9ae227a794e", func := "framekeep/framelaw4.SupplyAll", spec := "supplyAll", inPlace := ["internal/reflectlite.ValueOf", "(internal/reflectlite.Value).Type", "(internal/reflectlite.Value).IsNil", "internal/reflectlite.TypeOf", "(internal/reflectlite.Value).Elem", "(internal/reflectlite.Value).Set"], unfollowed := true, recurses := true, named := ["errors.errorType"], apart := false, laid := [("errors.errorType", laid_errors_errorType)], narrowed := true }
def SupplyAllUptoSaid : Prop := supplyAllUptoRow.holds Tryd.pinned (OpenSpec.upto supplyAllSpec)

/-- 'framelaw3.SupplyTells', WHERE WHAT IT READS IS OF BULK AT MOST 1048576: true; the input reads as it did. -/
def supplyTellsUptoRow : OpenClaim := { program := "ytfokcjooibmigaadoor", sum := "b108f46e92adb4b6966880eaf173ddf1b39680efef60ca31dd2db9ae227a794e", func := "framekeep/framelaw3.SupplyTells", spec := "supplyTells", inPlace := ["internal/reflectlite.ValueOf", "(internal/reflectlite.Value).Type", "(internal/reflectlite.Value).IsNil", "internal/reflectlite.TypeOf", "(internal/reflectlite.Value).Elem", "(internal/reflectlite.Value).Set"], unfollowed := true, recurses := true, named := ["errors.errorType"], apart := false, laid := [("errors.errorType", laid_errors_errorType)], narrowed := true }
def SupplyTellsUptoSaid : Prop := supplyTellsUptoRow.holds Tryd.pinned (OpenSpec.upto supplyTellsSpec)

end Rows
end Go.Proofs.YtfokcjooibmigaaDoor
