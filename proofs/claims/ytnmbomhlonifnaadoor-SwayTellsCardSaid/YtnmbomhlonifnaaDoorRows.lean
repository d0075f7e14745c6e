/-
  NARROWER THAN 'FOR EVERY INPUT', by the rows' own cells (each row's printed sentence says how): CareOn: laid · CareStays: laid · CarePlays: laid · SwayNone: laid · SwayFlows: laid · SwayTells: laid · TopLevels: laid · TraceTurns: laid · SightTells: laid.
  DERIVED. THE GIVEN ROWS OF THIS SEAT. 9 by the template 'for every input the law returns true; each argument reads behind the call as it read before'; 0 by the template 'total and deterministic' (their statements: YtnmbomhlonifnaaDoorTotals.lean).
  GIVEN WITH THE SEED: the statements are not yours to turn. If you find one false, say at which input.
  Laid BY PROGRAM, IN A SANDBOX (cutbox-rows.mjs): the forced cells as the released guide's own fill.sh prints them over the translation 3e4fb07aa1ca9953… (all of the seat's roots in one cut). By AI agents, Wed Nov 11 2026. No macro, syntax, notation, axiom, sorry.
-/
import Derived.Test.YtnmbomhlonifnaaDoorChecked
import GoSem.Claim
import GoSem.ClaimJoined
import GoSem.ClaimMapViews
import Derived.JoinedTies
import Derived.KernelRfl
namespace Go.Proofs.YtnmbomhlonifnaaDoor
/- THE CELL 'sum', in the pinned program and in every row, IS THE sha256 OF THE DUMP (.gsa) THAT YtnmbomhlonifnaaDoorProg.lean LOADS. Nothing in Lean hashes anything: it is a label: what it is worth is what the hold of that sum in a sandbox is worth. -/
noncomputable def Tryd.pinned : Pinned := { name := "ytnmbomhlonifnaadoor", sum := "3e4fb07aa1ca9953b059d04c4ed6321564719feb6ef071b1a3ad64d1c6ac9921", checked := Tryd.checked }
namespace Rows
def none {H : Type} : Left H := { results := [], args := [] }

/- WHAT THE LISTED PACKAGE-LEVEL VARIABLES READ AS WHEN THE CALL BEGINS. Each datum BY PROGRAM (the guide's laid-datum.mjs) off the statement by which the dump's own 'gosem.cut.vars' lays the variable. In a bare row this is a premise. The card (YtnmbomhlonifnaaDoorCards.lean) ties it to the program's text. -/
def laid_framekeep_code_forms {H : Type} : DataW H := .agg [.agg [.lit (.string []), .lit (.bool false), .lit (.bool false)], .agg [.lit (.string [115, 101, 116]), .lit (.bool true), .lit (.bool true)], .agg [.lit (.string [99, 111, 112, 121]), .lit (.bool true), .lit (.bool true)], .agg [.lit (.string [97, 100, 100]), .lit (.bool true), .lit (.bool true)], .agg [.lit (.string [115, 117, 98]), .lit (.bool true), .lit (.bool true)], .agg [.lit (.string [109, 117, 108]), .lit (.bool true), .lit (.bool true)], .agg [.lit (.string [122, 101, 114, 111]), .lit (.bool true), .lit (.bool true)], .agg [.lit (.string [106, 117, 109, 112]), .lit (.bool false), .lit (.bool true)], .agg [.lit (.string [115, 101, 110, 100]), .lit (.bool true), .lit (.bool true)], .agg [.lit (.string [116, 97, 107, 101]), .lit (.bool true), .lit (.bool true)], .agg [.lit (.string [114, 101, 115, 116]), .lit (.bool false), .lit (.bool false)], .agg [.lit (.string [102, 97, 105, 108]), .lit (.bool false), .lit (.bool false)]]
def laid_errors_errorType {H : Type} : DataW H := .iface "internal/reflectlite.rtype" (.agg [.ptr (.lit (.string [101, 114, 114, 111, 114]))])

/-- 'framelaw4.CareOn': WHATEVER THE INPUT: true; the input reads as it did. -/
def careOnSpec : ChangeSpec := { name := "careOn", fn := fun _ => fun
  | [d1, d2] => { results := [.lit (.bool true)], args := [d1, d2] }
  | _ => none }
def careOnRow : OpenClaim := { program := "ytnmbomhlonifnaadoor", sum := "3e4fb07aa1ca9953b059d04c4ed6321564719feb6ef071b1a3ad64d1c6ac9921", func := "framekeep/framelaw4.CareOn", spec := "careOn", unfollowed := true, recurses := true, named := ["framekeep/code.forms"], apart := false, laid := [("framekeep/code.forms", laid_framekeep_code_forms)] }
def CareOnSaid : Prop := careOnRow.holds Tryd.pinned (OpenSpec.ofChange careOnSpec)

/-- ITS FALSE NEIGHBOUR: 'it returns false'. Refute it at one input. -/
def careOnWrong : ChangeSpec := { name := "careOn", fn := fun _ => fun
  | [d1, d2] => { results := [.lit (.bool false)], args := [d1, d2] }
  | _ => none }
def CareOnWrongFalsely : Prop := careOnRow.holds Tryd.pinned (OpenSpec.ofChange careOnWrong)

/-- 'framelaw2.CareStays': WHATEVER THE INPUT: true; the input reads as it did. -/
def careStaysSpec : ChangeSpec := { name := "careStays", fn := fun _ => fun
  | [d1, d2, d3, d4, d5] => { results := [.lit (.bool true)], args := [d1, d2, d3, d4, d5] }
  | _ => none }
def careStaysRow : OpenClaim := { program := "ytnmbomhlonifnaadoor", sum := "3e4fb07aa1ca9953b059d04c4ed6321564719feb6ef071b1a3ad64d1c6ac9921", func := "framekeep/framelaw2.CareStays", spec := "careStays", unfollowed := true, recurses := true, named := ["framekeep/code.forms"], apart := false, laid := [("framekeep/code.forms", laid_framekeep_code_forms)] }
def CareStaysSaid : Prop := careStaysRow.holds Tryd.pinned (OpenSpec.ofChange careStaysSpec)

/-- ITS FALSE NEIGHBOUR: 'it returns false'. Refute it at one input. -/
def careStaysWrong : ChangeSpec := { name := "careStays", fn := fun _ => fun
  | [d1, d2, d3, d4, d5] => { results := [.lit (.bool false)], args := [d1, d2, d3, d4, d5] }
  | _ => none }
def CareStaysWrongFalsely : Prop := careStaysRow.holds Tryd.pinned (OpenSpec.ofChange careStaysWrong)

/-- 'framelaw2.CarePlays': WHATEVER THE INPUT: true; the input reads as it did. -/
def carePlaysSpec : ChangeSpec := { name := "carePlays", fn := fun _ => fun
  | [d1, d2, d3, d4, d5] => { results := [.lit (.bool true)], args := [d1, d2, d3, d4, d5] }
  | _ => none }
def carePlaysRow : OpenClaim := { program := "ytnmbomhlonifnaadoor", sum := "3e4fb07aa1ca9953b059d04c4ed6321564719feb6ef071b1a3ad64d1c6ac9921", func := "framekeep/framelaw2.CarePlays", spec := "carePlays", inPlace := ["internal/reflectlite.ValueOf", "(internal/reflectlite.Value).Type", "(internal/reflectlite.Value).IsNil", "internal/reflectlite.TypeOf", "(internal/reflectlite.Value).Elem", "(internal/reflectlite.Value).Set"], unfollowed := true, recurses := true, named := ["framekeep/code.forms", "errors.errorType"], apart := false, laid := [("errors.errorType", laid_errors_errorType), ("framekeep/code.forms", laid_framekeep_code_forms)] }
def CarePlaysSaid : Prop := carePlaysRow.holds Tryd.pinned (OpenSpec.ofChange carePlaysSpec)

/-- ITS FALSE NEIGHBOUR: 'it returns false'. Refute it at one input. -/
def carePlaysWrong : ChangeSpec := { name := "carePlays", fn := fun _ => fun
  | [d1, d2, d3, d4, d5] => { results := [.lit (.bool false)], args := [d1, d2, d3, d4, d5] }
  | _ => none }
def CarePlaysWrongFalsely : Prop := carePlaysRow.holds Tryd.pinned (OpenSpec.ofChange carePlaysWrong)

/-- 'framelaw4.SwayNone': WHATEVER THE INPUT: true; the input reads as it did. -/
def swayNoneSpec : ChangeSpec := { name := "swayNone", fn := fun _ => fun
  | [d1, d2, d3, d4] => { results := [.lit (.bool true)], args := [d1, d2, d3, d4] }
  | _ => none }
def swayNoneRow : OpenClaim := { program := "ytnmbomhlonifnaadoor", sum := "3e4fb07aa1ca9953b059d04c4ed6321564719feb6ef071b1a3ad64d1c6ac9921", func := "framekeep/framelaw4.SwayNone", spec := "swayNone", unfollowed := true, recurses := true, named := ["framekeep/code.forms"], apart := false, laid := [("framekeep/code.forms", laid_framekeep_code_forms)] }
def SwayNoneSaid : Prop := swayNoneRow.holds Tryd.pinned (OpenSpec.ofChange swayNoneSpec)

/-- ITS FALSE NEIGHBOUR: 'it returns false'. Refute it at one input. -/
def swayNoneWrong : ChangeSpec := { name := "swayNone", fn := fun _ => fun
  | [d1, d2, d3, d4] => { results := [.lit (.bool false)], args := [d1, d2, d3, d4] }
  | _ => none }
def SwayNoneWrongFalsely : Prop := swayNoneRow.holds Tryd.pinned (OpenSpec.ofChange swayNoneWrong)

/-- 'framelaw3.SwayFlows': WHATEVER THE INPUT: true; the input reads as it did. -/
def swayFlowsSpec : ChangeSpec := { name := "swayFlows", fn := fun _ => fun
  | [d1, d2, d3, d4, d5, d6] => { results := [.lit (.bool true)], args := [d1, d2, d3, d4, d5, d6] }
  | _ => none }
def swayFlowsRow : OpenClaim := { program := "ytnmbomhlonifnaadoor", sum := "3e4fb07aa1ca9953b059d04c4ed6321564719feb6ef071b1a3ad64d1c6ac9921", func := "framekeep/framelaw3.SwayFlows", spec := "swayFlows", unfollowed := true, recurses := true, named := ["framekeep/code.forms"], apart := false, laid := [("framekeep/code.forms", laid_framekeep_code_forms)] }
def SwayFlowsSaid : Prop := swayFlowsRow.holds Tryd.pinned (OpenSpec.ofChange swayFlowsSpec)

/-- ITS FALSE NEIGHBOUR: 'it returns false'. Refute it at one input. -/
def swayFlowsWrong : ChangeSpec := { name := "swayFlows", fn := fun _ => fun
  | [d1, d2, d3, d4, d5, d6] => { results := [.lit (.bool false)], args := [d1, d2, d3, d4, d5, d6] }
  | _ => none }
def SwayFlowsWrongFalsely : Prop := swayFlowsRow.holds Tryd.pinned (OpenSpec.ofChange swayFlowsWrong)

/-- 'framelaw3.SwayTells': WHATEVER THE INPUT: true; the input reads as it did. -/
def swayTellsSpec : ChangeSpec := { name := "swayTells", fn := fun _ => fun
  | [d1, d2, d3, d4, d5, d6] => { results := [.lit (.bool true)], args := [d1, d2, d3, d4, d5, d6] }
  | _ => none }
def swayTellsRow : OpenClaim := { program := "ytnmbomhlonifnaadoor", sum := "3e4fb07aa1ca9953b059d04c4ed6321564719feb6ef071b1a3ad64d1c6ac9921", func := "framekeep/framelaw3.SwayTells", spec := "swayTells", inPlace := ["internal/reflectlite.ValueOf", "(internal/reflectlite.Value).Type", "(internal/reflectlite.Value).IsNil", "internal/reflectlite.TypeOf", "(internal/reflectlite.Value).Elem", "(internal/reflectlite.Value).Set"], unfollowed := true, recurses := true, named := ["framekeep/code.forms", "errors.errorType"], apart := false, laid := [("errors.errorType", laid_errors_errorType), ("framekeep/code.forms", laid_framekeep_code_forms)] }
def SwayTellsSaid : Prop := swayTellsRow.holds Tryd.pinned (OpenSpec.ofChange swayTellsSpec)

/-- ITS FALSE NEIGHBOUR: 'it returns false'. Refute it at one input. -/
def swayTellsWrong : ChangeSpec := { name := "swayTells", fn := fun _ => fun
  | [d1, d2, d3, d4, d5, d6] => { results := [.lit (.bool false)], args := [d1, d2, d3, d4, d5, d6] }
  | _ => none }
def SwayTellsWrongFalsely : Prop := swayTellsRow.holds Tryd.pinned (OpenSpec.ofChange swayTellsWrong)

/-- 'frametop.TopLevels': WHATEVER THE INPUT: true; the input reads as it did. -/
def topLevelsSpec : ChangeSpec := { name := "topLevels", fn := fun _ => fun
  | [d1, d2, d3, d4] => { results := [.lit (.bool true)], args := [d1, d2, d3, d4] }
  | _ => none }
def topLevelsRow : OpenClaim := { program := "ytnmbomhlonifnaadoor", sum := "3e4fb07aa1ca9953b059d04c4ed6321564719feb6ef071b1a3ad64d1c6ac9921", func := "framekeep/frametop.TopLevels", spec := "topLevels", unfollowed := true, recurses := true, named := ["framekeep/code.forms"], apart := false, laid := [("framekeep/code.forms", laid_framekeep_code_forms)] }
def TopLevelsSaid : Prop := topLevelsRow.holds Tryd.pinned (OpenSpec.ofChange topLevelsSpec)

/-- ITS FALSE NEIGHBOUR: 'it returns false'. Refute it at one input. -/
def topLevelsWrong : ChangeSpec := { name := "topLevels", fn := fun _ => fun
  | [d1, d2, d3, d4] => { results := [.lit (.bool false)], args := [d1, d2, d3, d4] }
  | _ => none }
def TopLevelsWrongFalsely : Prop := topLevelsRow.holds Tryd.pinned (OpenSpec.ofChange topLevelsWrong)

/-- 'framelaw4.TraceTurns': WHATEVER THE INPUT: true; the input reads as it did. -/
def traceTurnsSpec : ChangeSpec := { name := "traceTurns", fn := fun _ => fun
  | [d1, d2, d3] => { results := [.lit (.bool true)], args := [d1, d2, d3] }
  | _ => none }
def traceTurnsRow : OpenClaim := { program := "ytnmbomhlonifnaadoor", sum := "3e4fb07aa1ca9953b059d04c4ed6321564719feb6ef071b1a3ad64d1c6ac9921", func := "framekeep/framelaw4.TraceTurns", spec := "traceTurns", inPlace := ["internal/reflectlite.ValueOf", "(internal/reflectlite.Value).Type", "(internal/reflectlite.Value).IsNil", "internal/reflectlite.TypeOf", "(internal/reflectlite.Value).Elem", "(internal/reflectlite.Value).Set"], unfollowed := true, recurses := true, named := ["errors.errorType", "framekeep/code.forms"], apart := false, laid := [("errors.errorType", laid_errors_errorType), ("framekeep/code.forms", laid_framekeep_code_forms)] }
def TraceTurnsSaid : Prop := traceTurnsRow.holds Tryd.pinned (OpenSpec.ofChange traceTurnsSpec)

/-- ITS FALSE NEIGHBOUR: 'it returns false'. Refute it at one input. -/
def traceTurnsWrong : ChangeSpec := { name := "traceTurns", fn := fun _ => fun
  | [d1, d2, d3] => { results := [.lit (.bool false)], args := [d1, d2, d3] }
  | _ => none }
def TraceTurnsWrongFalsely : Prop := traceTurnsRow.holds Tryd.pinned (OpenSpec.ofChange traceTurnsWrong)

/-- 'framelaw1.SightTells': WHATEVER THE INPUT: true; the input reads as it did. -/
def sightTellsSpec : ChangeSpec := { name := "sightTells", fn := fun _ => fun
  | [d1, d2, d3, d4] => { results := [.lit (.bool true)], args := [d1, d2, d3, d4] }
  | _ => none }
def sightTellsRow : OpenClaim := { program := "ytnmbomhlonifnaadoor", sum := "3e4fb07aa1ca9953b059d04c4ed6321564719feb6ef071b1a3ad64d1c6ac9921", func := "framekeep/framelaw1.SightTells", spec := "sightTells", inPlace := ["internal/reflectlite.ValueOf", "(internal/reflectlite.Value).Type", "(internal/reflectlite.Value).IsNil", "internal/reflectlite.TypeOf", "(internal/reflectlite.Value).Elem", "(internal/reflectlite.Value).Set"], unfollowed := true, recurses := true, named := ["framekeep/code.forms", "errors.errorType"], apart := false, laid := [("errors.errorType", laid_errors_errorType), ("framekeep/code.forms", laid_framekeep_code_forms)] }
def SightTellsSaid : Prop := sightTellsRow.holds Tryd.pinned (OpenSpec.ofChange sightTellsSpec)

/-- ITS FALSE NEIGHBOUR: 'it returns false'. Refute it at one input. -/
def sightTellsWrong : ChangeSpec := { name := "sightTells", fn := fun _ => fun
  | [d1, d2, d3, d4] => { results := [.lit (.bool false)], args := [d1, d2, d3, d4] }
  | _ => none }
def SightTellsWrongFalsely : Prop := sightTellsRow.holds Tryd.pinned (OpenSpec.ofChange sightTellsWrong)

/- THE SECOND FORM. 'bulk': how many values and letters a reading holds, each counted each time it is reached (what is shared counts as often as it is met; a slice's spare places count too). A statement '..UptoSaid' is the law's where the arguments, and the package variables that the reading takes, are together of bulk at most 1048576: NARROWER than '..Said'. Prove '..Said' where nothing that the law and all that it calls make is longer than what came in: it says more and counts as full. Else prove '..UptoSaid'. A law counts once. -/
mutual
def uptoBulk {H : Type} : DataW H → Nat
  | .lit (.string bytes) => bytes.length + 1
  | .lit _ => 1
  | .nil => 1
  | .ptr d => uptoBulk d + 1
  | .slice elems spare => uptoBulkAll elems + uptoBulkAll spare + 1
  | .agg parts => uptoBulkAll parts + 1
  | .iface _ d => uptoBulk d + 1
  | .map entries => uptoBulkEntries entries + 1
  | .held _ => 1
def uptoBulkAll {H : Type} : List (DataW H) → Nat
  | [] => 0
  | d :: r => uptoBulk d + uptoBulkAll r
def uptoBulkEntries {H : Type} : List (Lit × DataW H) → Nat
  | [] => 0
  | x :: r => uptoBulkEntry x + uptoBulkEntries r
def uptoBulkEntry {H : Type} : Lit × DataW H → Nat
  | (.string bytes, d) => bytes.length + uptoBulk d + 1
  | (_, d) => uptoBulk d + 1
 end
def uptoSmall : (H : Type) → List (DataW H) → Bool := fun _ ds => decide (uptoBulkAll ds ≤ 1048576)
def OpenSpec.upto (s : _root_.Go.ChangeSpec) : _root_.Go.OpenSpec := { _root_.Go.OpenSpec.ofChange s with cond := some uptoSmall }

/-- 'framelaw4.CareOn', WHERE WHAT IT READS IS OF BULK AT MOST 1048576: true; the input reads as it did. -/
def careOnUptoRow : OpenClaim := { program := "ytnmbomhlonifnaadoor", sum := "3e4fb07aa1ca9953b059d04c4ed6321564719feb6ef071b1a3ad64d1c6ac9921", func := "framekeep/framelaw4.CareOn", spec := "careOn", unfollowed := true, recurses := true, named := ["framekeep/code.forms"], apart := false, laid := [("framekeep/code.forms", laid_framekeep_code_forms)], narrowed := true }
def CareOnUptoSaid : Prop := careOnUptoRow.holds Tryd.pinned (OpenSpec.upto careOnSpec)

/-- 'framelaw2.CareStays', WHERE WHAT IT READS IS OF BULK AT MOST 1048576: true; the input reads as it did. -/
def careStaysUptoRow : OpenClaim := { program := "ytnmbomhlonifnaadoor", sum := "3e4fb07aa1ca9953b059d04c4ed6321564719feb6ef071b1a3ad64d1c6ac9921", func := "framekeep/framelaw2.CareStays", spec := "careStays", unfollowed := true, recurses := true, named := ["framekeep/code.forms"], apart := false, laid := [("framekeep/code.forms", laid_framekeep_code_forms)], narrowed := true }
def CareStaysUptoSaid : Prop := careStaysUptoRow.holds Tryd.pinned (OpenSpec.upto careStaysSpec)

/-- 'framelaw2.CarePlays', WHERE WHAT IT READS IS OF BULK AT MOST 1048576: true; the input reads as it did. -/
def carePlaysUptoRow : OpenClaim := { program := "ytnmbomhlonifnaadoor", sum := "3e4fb07aa1ca9953b059d04c4ed6321564719feb6ef071b1a3ad64d1c6ac9921", func := "framekeep/framelaw2.CarePlays", spec := "carePlays", inPlace := ["internal/reflectlite.ValueOf", "(internal/reflectlite.Value).Type", "(internal/reflectlite.Value).IsNil", "internal/reflectlite.TypeOf", "(internal/reflectlite.Value).Elem", "(internal/reflectlite.Value).Set"], unfollowed := true, recurses := true, named := ["framekeep/code.forms", "errors.errorType"], apart := false, laid := [("errors.errorType", laid_errors_errorType), ("framekeep/code.forms", laid_framekeep_code_forms)], narrowed := true }
def CarePlaysUptoSaid : Prop := carePlaysUptoRow.holds Tryd.pinned (OpenSpec.upto carePlaysSpec)

/-- 'framelaw4.SwayNone', WHERE WHAT IT READS IS OF BULK AT MOST 1048576: true; the input reads as it did. -/
def swayNoneUptoRow : OpenClaim := { program := "ytnmbomhlonifnaadoor", sum := "3e4fb07aa1ca9953b059d04c4ed6321564719feb6ef071b1a3ad64d1c6ac9921", func := "framekeep/framelaw4.SwayNone", spec := "swayNone", unfollowed := true, recurses := true, named := ["framekeep/code.forms"], apart := false, laid := [("framekeep/code.forms", laid_framekeep_code_forms)], narrowed := true }
def SwayNoneUptoSaid : Prop := swayNoneUptoRow.holds Tryd.pinned (OpenSpec.upto swayNoneSpec)

/-- 'framelaw3.SwayFlows', WHERE WHAT IT READS IS OF BULK AT MOST 1048576: true; the input reads as it did. -/
def swayFlowsUptoRow : OpenClaim := { program := "ytnmbomhlonifnaadoor", sum := "3e4fb07aa1ca9953b059d04c4ed6321564719feb6ef071b1a3ad64d1c6ac9921", func := "framekeep/framelaw3.SwayFlows", spec := "swayFlows", unfollowed := true, recurses := true, named := ["framekeep/code.forms"], apart := false, laid := [("framekeep/code.forms", laid_framekeep_code_forms)], narrowed := true }
def SwayFlowsUptoSaid : Prop := swayFlowsUptoRow.holds Tryd.pinned (OpenSpec.upto swayFlowsSpec)

/-- 'framelaw3.SwayTells', WHERE WHAT IT READS IS OF BULK AT MOST 1048576: true; the input reads as it did. -/
def swayTellsUptoRow : OpenClaim := { program := "ytnmbomhlonifnaadoor", sum := "3e4fb07aa1ca9953b059d04c4ed6321564719feb6ef071b1a3ad64d1c6ac9921", func := "framekeep/framelaw3.SwayTells", spec := "swayTells", inPlace := ["internal/reflectlite.ValueOf", "(internal/reflectlite.Value).Type", "(internal/reflectlite.Value).IsNil", "internal/reflectlite.TypeOf", "(internal/reflectlite.Value).Elem", "(internal/reflectlite.Value).Set"], unfollowed := true, recurses := true, named := ["framekeep/code.forms", "errors.errorType"], apart := false, laid := [("errors.errorType", laid_errors_errorType), ("framekeep/code.forms", laid_framekeep_code_forms)], narrowed := true }
def SwayTellsUptoSaid : Prop := swayTellsUptoRow.holds Tryd.pinned (OpenSpec.upto swayTellsSpec)

/-- 'frametop.TopLevels', WHERE WHAT IT READS IS OF BULK AT MOST 1048576: true; the input reads as it did. -/
def topLevelsUptoRow : OpenClaim := { program := "ytnmbomhlonifnaadoor", sum := "3e4fb07aa1ca9953b059d04c4ed6321564719feb6ef071b1a3ad64d1c6ac9921", func := "framekeep/frametop.TopLevels", spec := "topLevels", unfollowed := true, recurses := true, named := ["framekeep/code.forms"], apart := false, laid := [("framekeep/code.forms", laid_framekeep_code_forms)], narrowed := true }
def TopLevelsUptoSaid : Prop := topLevelsUptoRow.holds Tryd.pinned (OpenSpec.upto topLevelsSpec)

/-- 'framelaw4.TraceTurns', WHERE WHAT IT READS IS OF BULK AT MOST 1048576: true; the input reads as it did. -/
def traceTurnsUptoRow : OpenClaim := { program := "ytnmbomhlonifnaadoor", sum := "3e4fb07aa1ca9953b059d04c4ed6321564719feb6ef071b1a3ad64d1c6ac9921", func := "framekeep/framelaw4.TraceTurns", spec := "traceTurns", inPlace := ["internal/reflectlite.ValueOf", "(internal/reflectlite.Value).Type", "(internal/reflectlite.Value).IsNil", "internal/reflectlite.TypeOf", "(internal/reflectlite.Value).Elem", "(internal/reflectlite.Value).Set"], unfollowed := true, recurses := true, named := ["errors.errorType", "framekeep/code.forms"], apart := false, laid := [("errors.errorType", laid_errors_errorType), ("framekeep/code.forms", laid_framekeep_code_forms)], narrowed := true }
def TraceTurnsUptoSaid : Prop := traceTurnsUptoRow.holds Tryd.pinned (OpenSpec.upto traceTurnsSpec)

/-- 'framelaw1.SightTells', WHERE WHAT IT READS IS OF BULK AT MOST 1048576: true; the input reads as it did. -/
def sightTellsUptoRow : OpenClaim := { program := "ytnmbomhlonifnaadoor", sum := "3e4fb07aa1ca9953b059d04c4ed6321564719feb6ef071b1a3ad64d1c6ac9921", func := "framekeep/framelaw1.SightTells", spec := "sightTells", inPlace := ["internal/reflectlite.ValueOf", "(internal/reflectlite.Value).Type", "(internal/reflectlite.Value).IsNil", "internal/reflectlite.TypeOf", "(internal/reflectlite.Value).Elem", "(internal/reflectlite.Value).Set"], unfollowed := true, recurses := true, named := ["framekeep/code.forms", "errors.errorType"], apart := false, laid := [("errors.errorType", laid_errors_errorType), ("framekeep/code.forms", laid_framekeep_code_forms)], narrowed := true }
def SightTellsUptoSaid : Prop := sightTellsUptoRow.holds Tryd.pinned (OpenSpec.upto sightTellsSpec)

end Rows
end Go.Proofs.YtnmbomhlonifnaaDoor
