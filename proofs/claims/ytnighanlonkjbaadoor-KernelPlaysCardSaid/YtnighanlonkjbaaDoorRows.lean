/-
  NARROWER THAN 'FOR EVERY INPUT', by the rows' own cells (each row's printed sentence says how): RoomStays: laid · RoomCounts: laid · RoomTells: laid · WirePlays: laid · PlanPorts: laid · KernelCounts: laid · KernelTurns: laid · KernelPlays: laid · SightLong: laid · SightSame: laid · SightTells: laid · PurgeTwice: laid.
  DERIVED. THE GIVEN ROWS OF THIS SEAT. 12 by the template 'for every input the law returns true; each argument reads behind the call as it read before'; 0 by the template 'total and deterministic' (their statements: YtnighanlonkjbaaDoorTotals.lean).
  GIVEN WITH THE SEED: the statements are not yours to turn. If you find one false, say at which input.
  Laid BY PROGRAM, IN A SANDBOX (cutbox-rows.mjs): the forced cells as the released guide's own fill.sh prints them over the translation 65ce0b694272ae04… (all of the seat's roots in one cut). By AI agents, Wed Nov 11 2026. No macro, syntax, notation, axiom, sorry.
-/
import Derived.Test.YtnighanlonkjbaaDoorChecked
import GoSem.Claim
import GoSem.ClaimJoined
import GoSem.ClaimMapViews
import Derived.JoinedTies
import Derived.KernelRfl
namespace Go.Proofs.YtnighanlonkjbaaDoor
/- THE CELL 'sum', in the pinned program and in every row, IS THE sha256 OF THE DUMP (.gsa) THAT YtnighanlonkjbaaDoorProg.lean LOADS. Nothing in Lean hashes anything: it is a label: what it is worth is what the hold of that sum in a sandbox is worth. -/
noncomputable def Tryd.pinned : Pinned := { name := "ytnighanlonkjbaadoor", sum := "65ce0b694272ae04560f35740cb9d0fe7a2daa352e82ef60f886a3468bedc127", checked := Tryd.checked }
namespace Rows
def none {H : Type} : Left H := { results := [], args := [] }

/- WHAT THE LISTED PACKAGE-LEVEL VARIABLES READ AS WHEN THE CALL BEGINS. Each datum BY PROGRAM (the guide's laid-datum.mjs) off the statement by which the dump's own 'gosem.cut.vars' lays the variable. In a bare row this is a premise. The card (YtnighanlonkjbaaDoorCards.lean) ties it to the program's text. -/
def laid_framekeep_code_forms {H : Type} : DataW H := .agg [.agg [.lit (.string []), .lit (.bool false), .lit (.bool false)], .agg [.lit (.string [115, 101, 116]), .lit (.bool true), .lit (.bool true)], .agg [.lit (.string [99, 111, 112, 121]), .lit (.bool true), .lit (.bool true)], .agg [.lit (.string [97, 100, 100]), .lit (.bool true), .lit (.bool true)], .agg [.lit (.string [115, 117, 98]), .lit (.bool true), .lit (.bool true)], .agg [.lit (.string [109, 117, 108]), .lit (.bool true), .lit (.bool true)], .agg [.lit (.string [122, 101, 114, 111]), .lit (.bool true), .lit (.bool true)], .agg [.lit (.string [106, 117, 109, 112]), .lit (.bool false), .lit (.bool true)], .agg [.lit (.string [115, 101, 110, 100]), .lit (.bool true), .lit (.bool true)], .agg [.lit (.string [116, 97, 107, 101]), .lit (.bool true), .lit (.bool true)], .agg [.lit (.string [114, 101, 115, 116]), .lit (.bool false), .lit (.bool false)], .agg [.lit (.string [102, 97, 105, 108]), .lit (.bool false), .lit (.bool false)]]
def laid_errors_errorType {H : Type} : DataW H := .iface "internal/reflectlite.rtype" (.agg [.ptr (.lit (.string [101, 114, 114, 111, 114]))])

/-- 'framelaw1.RoomStays': WHATEVER THE INPUT: true; the input reads as it did. -/
def roomStaysSpec : ChangeSpec := { name := "roomStays", fn := fun _ => fun
  | [d1, d2, d3, d4, d5] => { results := [.lit (.bool true)], args := [d1, d2, d3, d4, d5] }
  | _ => none }
def roomStaysRow : OpenClaim := { program := "ytnighanlonkjbaadoor", sum := "65ce0b694272ae04560f35740cb9d0fe7a2daa352e82ef60f886a3468bedc127", func := "framekeep/framelaw1.RoomStays", spec := "roomStays", unfollowed := true, recurses := true, named := ["framekeep/code.forms"], apart := false, laid := [("framekeep/code.forms", laid_framekeep_code_forms)] }
def RoomStaysSaid : Prop := roomStaysRow.holds Tryd.pinned (OpenSpec.ofChange roomStaysSpec)

/-- ITS FALSE NEIGHBOUR: 'it returns false'. Refute it at one input. -/
def roomStaysWrong : ChangeSpec := { name := "roomStays", fn := fun _ => fun
  | [d1, d2, d3, d4, d5] => { results := [.lit (.bool false)], args := [d1, d2, d3, d4, d5] }
  | _ => none }
def RoomStaysWrongFalsely : Prop := roomStaysRow.holds Tryd.pinned (OpenSpec.ofChange roomStaysWrong)

/-- 'framelaw4.RoomCounts': WHATEVER THE INPUT: true; the input reads as it did. -/
def roomCountsSpec : ChangeSpec := { name := "roomCounts", fn := fun _ => fun
  | [d1, d2] => { results := [.lit (.bool true)], args := [d1, d2] }
  | _ => none }
def roomCountsRow : OpenClaim := { program := "ytnighanlonkjbaadoor", sum := "65ce0b694272ae04560f35740cb9d0fe7a2daa352e82ef60f886a3468bedc127", func := "framekeep/framelaw4.RoomCounts", spec := "roomCounts", unfollowed := true, recurses := true, named := ["framekeep/code.forms"], apart := false, laid := [("framekeep/code.forms", laid_framekeep_code_forms)] }
def RoomCountsSaid : Prop := roomCountsRow.holds Tryd.pinned (OpenSpec.ofChange roomCountsSpec)

/-- ITS FALSE NEIGHBOUR: 'it returns false'. Refute it at one input. -/
def roomCountsWrong : ChangeSpec := { name := "roomCounts", fn := fun _ => fun
  | [d1, d2] => { results := [.lit (.bool false)], args := [d1, d2] }
  | _ => none }
def RoomCountsWrongFalsely : Prop := roomCountsRow.holds Tryd.pinned (OpenSpec.ofChange roomCountsWrong)

/-- 'framelaw1.RoomTells': WHATEVER THE INPUT: true; the input reads as it did. -/
def roomTellsSpec : ChangeSpec := { name := "roomTells", fn := fun _ => fun
  | [d1, d2, d3, d4] => { results := [.lit (.bool true)], args := [d1, d2, d3, d4] }
  | _ => none }
def roomTellsRow : OpenClaim := { program := "ytnighanlonkjbaadoor", sum := "65ce0b694272ae04560f35740cb9d0fe7a2daa352e82ef60f886a3468bedc127", func := "framekeep/framelaw1.RoomTells", spec := "roomTells", inPlace := ["internal/reflectlite.ValueOf", "(internal/reflectlite.Value).Type", "(internal/reflectlite.Value).IsNil", "internal/reflectlite.TypeOf", "(internal/reflectlite.Value).Elem", "(internal/reflectlite.Value).Set"], unfollowed := true, recurses := true, named := ["framekeep/code.forms", "errors.errorType"], apart := false, laid := [("errors.errorType", laid_errors_errorType), ("framekeep/code.forms", laid_framekeep_code_forms)] }
def RoomTellsSaid : Prop := roomTellsRow.holds Tryd.pinned (OpenSpec.ofChange roomTellsSpec)

/-- ITS FALSE NEIGHBOUR: 'it returns false'. Refute it at one input. -/
def roomTellsWrong : ChangeSpec := { name := "roomTells", fn := fun _ => fun
  | [d1, d2, d3, d4] => { results := [.lit (.bool false)], args := [d1, d2, d3, d4] }
  | _ => none }
def RoomTellsWrongFalsely : Prop := roomTellsRow.holds Tryd.pinned (OpenSpec.ofChange roomTellsWrong)

/-- 'framelaw1.WirePlays': WHATEVER THE INPUT: true; the input reads as it did. -/
def wirePlaysSpec : ChangeSpec := { name := "wirePlays", fn := fun _ => fun
  | [d1, d2] => { results := [.lit (.bool true)], args := [d1, d2] }
  | _ => none }
def wirePlaysRow : OpenClaim := { program := "ytnighanlonkjbaadoor", sum := "65ce0b694272ae04560f35740cb9d0fe7a2daa352e82ef60f886a3468bedc127", func := "framekeep/framelaw1.WirePlays", spec := "wirePlays", inPlace := ["internal/reflectlite.ValueOf", "(internal/reflectlite.Value).Type", "(internal/reflectlite.Value).IsNil", "internal/reflectlite.TypeOf", "(internal/reflectlite.Value).Elem", "(internal/reflectlite.Value).Set"], unfollowed := true, recurses := true, named := ["errors.errorType"], apart := false, laid := [("errors.errorType", laid_errors_errorType)] }
def WirePlaysSaid : Prop := wirePlaysRow.holds Tryd.pinned (OpenSpec.ofChange wirePlaysSpec)

/-- ITS FALSE NEIGHBOUR: 'it returns false'. Refute it at one input. -/
def wirePlaysWrong : ChangeSpec := { name := "wirePlays", fn := fun _ => fun
  | [d1, d2] => { results := [.lit (.bool false)], args := [d1, d2] }
  | _ => none }
def WirePlaysWrongFalsely : Prop := wirePlaysRow.holds Tryd.pinned (OpenSpec.ofChange wirePlaysWrong)

/-- 'framelaw4.PlanPorts': WHATEVER THE INPUT: true; the input reads as it did. -/
def planPortsSpec : ChangeSpec := { name := "planPorts", fn := fun _ => fun
  | [d1, d2] => { results := [.lit (.bool true)], args := [d1, d2] }
  | _ => none }
def planPortsRow : OpenClaim := { program := "ytnighanlonkjbaadoor", sum := "65ce0b694272ae04560f35740cb9d0fe7a2daa352e82ef60f886a3468bedc127", func := "framekeep/framelaw4.PlanPorts", spec := "planPorts", inPlace := ["internal/reflectlite.ValueOf", "(internal/reflectlite.Value).Type", "(internal/reflectlite.Value).IsNil", "internal/reflectlite.TypeOf", "(internal/reflectlite.Value).Elem", "(internal/reflectlite.Value).Set"], unfollowed := true, recurses := true, named := ["framekeep/code.forms", "errors.errorType"], apart := false, laid := [("errors.errorType", laid_errors_errorType), ("framekeep/code.forms", laid_framekeep_code_forms)] }
def PlanPortsSaid : Prop := planPortsRow.holds Tryd.pinned (OpenSpec.ofChange planPortsSpec)

/-- ITS FALSE NEIGHBOUR: 'it returns false'. Refute it at one input. -/
def planPortsWrong : ChangeSpec := { name := "planPorts", fn := fun _ => fun
  | [d1, d2] => { results := [.lit (.bool false)], args := [d1, d2] }
  | _ => none }
def PlanPortsWrongFalsely : Prop := planPortsRow.holds Tryd.pinned (OpenSpec.ofChange planPortsWrong)

/-- 'framelaw4.KernelCounts': WHATEVER THE INPUT: true; the input reads as it did. -/
def kernelCountsSpec : ChangeSpec := { name := "kernelCounts", fn := fun _ => fun
  | [d1, d2] => { results := [.lit (.bool true)], args := [d1, d2] }
  | _ => none }
def kernelCountsRow : OpenClaim := { program := "ytnighanlonkjbaadoor", sum := "65ce0b694272ae04560f35740cb9d0fe7a2daa352e82ef60f886a3468bedc127", func := "framekeep/framelaw4.KernelCounts", spec := "kernelCounts", unfollowed := true, recurses := true, named := ["framekeep/code.forms"], apart := false, laid := [("framekeep/code.forms", laid_framekeep_code_forms)] }
def KernelCountsSaid : Prop := kernelCountsRow.holds Tryd.pinned (OpenSpec.ofChange kernelCountsSpec)

/-- ITS FALSE NEIGHBOUR: 'it returns false'. Refute it at one input. -/
def kernelCountsWrong : ChangeSpec := { name := "kernelCounts", fn := fun _ => fun
  | [d1, d2] => { results := [.lit (.bool false)], args := [d1, d2] }
  | _ => none }
def KernelCountsWrongFalsely : Prop := kernelCountsRow.holds Tryd.pinned (OpenSpec.ofChange kernelCountsWrong)

/-- 'framelaw1.KernelTurns': WHATEVER THE INPUT: true; the input reads as it did. -/
def kernelTurnsSpec : ChangeSpec := { name := "kernelTurns", fn := fun _ => fun
  | [d1, d2] => { results := [.lit (.bool true)], args := [d1, d2] }
  | _ => none }
def kernelTurnsRow : OpenClaim := { program := "ytnighanlonkjbaadoor", sum := "65ce0b694272ae04560f35740cb9d0fe7a2daa352e82ef60f886a3468bedc127", func := "framekeep/framelaw1.KernelTurns", spec := "kernelTurns", unfollowed := true, recurses := true, named := ["framekeep/code.forms"], apart := false, laid := [("framekeep/code.forms", laid_framekeep_code_forms)] }
def KernelTurnsSaid : Prop := kernelTurnsRow.holds Tryd.pinned (OpenSpec.ofChange kernelTurnsSpec)

/-- ITS FALSE NEIGHBOUR: 'it returns false'. Refute it at one input. -/
def kernelTurnsWrong : ChangeSpec := { name := "kernelTurns", fn := fun _ => fun
  | [d1, d2] => { results := [.lit (.bool false)], args := [d1, d2] }
  | _ => none }
def KernelTurnsWrongFalsely : Prop := kernelTurnsRow.holds Tryd.pinned (OpenSpec.ofChange kernelTurnsWrong)

/-- 'framelaw1.KernelPlays': WHATEVER THE INPUT: true; the input reads as it did. -/
def kernelPlaysSpec : ChangeSpec := { name := "kernelPlays", fn := fun _ => fun
  | [d1, d2] => { results := [.lit (.bool true)], args := [d1, d2] }
  | _ => none }
def kernelPlaysRow : OpenClaim := { program := "ytnighanlonkjbaadoor", sum := "65ce0b694272ae04560f35740cb9d0fe7a2daa352e82ef60f886a3468bedc127", func := "framekeep/framelaw1.KernelPlays", spec := "kernelPlays", inPlace := ["internal/reflectlite.ValueOf", "(internal/reflectlite.Value).Type", "(internal/reflectlite.Value).IsNil", "internal/reflectlite.TypeOf", "(internal/reflectlite.Value).Elem", "(internal/reflectlite.Value).Set"], unfollowed := true, recurses := true, named := ["framekeep/code.forms", "errors.errorType"], apart := false, laid := [("errors.errorType", laid_errors_errorType), ("framekeep/code.forms", laid_framekeep_code_forms)] }
def KernelPlaysSaid : Prop := kernelPlaysRow.holds Tryd.pinned (OpenSpec.ofChange kernelPlaysSpec)

/-- ITS FALSE NEIGHBOUR: 'it returns false'. Refute it at one input. -/
def kernelPlaysWrong : ChangeSpec := { name := "kernelPlays", fn := fun _ => fun
  | [d1, d2] => { results := [.lit (.bool false)], args := [d1, d2] }
  | _ => none }
def KernelPlaysWrongFalsely : Prop := kernelPlaysRow.holds Tryd.pinned (OpenSpec.ofChange kernelPlaysWrong)

/-- 'framelaw4.SightLong': WHATEVER THE INPUT: true; the input reads as it did. -/
def sightLongSpec : ChangeSpec := { name := "sightLong", fn := fun _ => fun
  | [d1, d2, d3] => { results := [.lit (.bool true)], args := [d1, d2, d3] }
  | _ => none }
def sightLongRow : OpenClaim := { program := "ytnighanlonkjbaadoor", sum := "65ce0b694272ae04560f35740cb9d0fe7a2daa352e82ef60f886a3468bedc127", func := "framekeep/framelaw4.SightLong", spec := "sightLong", unfollowed := true, recurses := true, named := ["framekeep/code.forms"], apart := false, laid := [("framekeep/code.forms", laid_framekeep_code_forms)] }
def SightLongSaid : Prop := sightLongRow.holds Tryd.pinned (OpenSpec.ofChange sightLongSpec)

/-- ITS FALSE NEIGHBOUR: 'it returns false'. Refute it at one input. -/
def sightLongWrong : ChangeSpec := { name := "sightLong", fn := fun _ => fun
  | [d1, d2, d3] => { results := [.lit (.bool false)], args := [d1, d2, d3] }
  | _ => none }
def SightLongWrongFalsely : Prop := sightLongRow.holds Tryd.pinned (OpenSpec.ofChange sightLongWrong)

/-- 'framelaw1.SightSame': WHATEVER THE INPUT: true; the input reads as it did. -/
def sightSameSpec : ChangeSpec := { name := "sightSame", fn := fun _ => fun
  | [d1, d2, d3, d4, d5] => { results := [.lit (.bool true)], args := [d1, d2, d3, d4, d5] }
  | _ => none }
def sightSameRow : OpenClaim := { program := "ytnighanlonkjbaadoor", sum := "65ce0b694272ae04560f35740cb9d0fe7a2daa352e82ef60f886a3468bedc127", func := "framekeep/framelaw1.SightSame", spec := "sightSame", unfollowed := true, recurses := true, named := ["framekeep/code.forms"], apart := false, laid := [("framekeep/code.forms", laid_framekeep_code_forms)] }
def SightSameSaid : Prop := sightSameRow.holds Tryd.pinned (OpenSpec.ofChange sightSameSpec)

/-- ITS FALSE NEIGHBOUR: 'it returns false'. Refute it at one input. -/
def sightSameWrong : ChangeSpec := { name := "sightSame", fn := fun _ => fun
  | [d1, d2, d3, d4, d5] => { results := [.lit (.bool false)], args := [d1, d2, d3, d4, d5] }
  | _ => none }
def SightSameWrongFalsely : Prop := sightSameRow.holds Tryd.pinned (OpenSpec.ofChange sightSameWrong)

/-- 'framelaw1.SightTells': WHATEVER THE INPUT: true; the input reads as it did. -/
def sightTellsSpec : ChangeSpec := { name := "sightTells", fn := fun _ => fun
  | [d1, d2, d3, d4] => { results := [.lit (.bool true)], args := [d1, d2, d3, d4] }
  | _ => none }
def sightTellsRow : OpenClaim := { program := "ytnighanlonkjbaadoor", sum := "65ce0b694272ae04560f35740cb9d0fe7a2daa352e82ef60f886a3468bedc127", func := "framekeep/framelaw1.SightTells", spec := "sightTells", inPlace := ["internal/reflectlite.ValueOf", "(internal/reflectlite.Value).Type", "(internal/reflectlite.Value).IsNil", "internal/reflectlite.TypeOf", "(internal/reflectlite.Value).Elem", "(internal/reflectlite.Value).Set"], unfollowed := true, recurses := true, named := ["framekeep/code.forms", "errors.errorType"], apart := false, laid := [("errors.errorType", laid_errors_errorType), ("framekeep/code.forms", laid_framekeep_code_forms)] }
def SightTellsSaid : Prop := sightTellsRow.holds Tryd.pinned (OpenSpec.ofChange sightTellsSpec)

/-- ITS FALSE NEIGHBOUR: 'it returns false'. Refute it at one input. -/
def sightTellsWrong : ChangeSpec := { name := "sightTells", fn := fun _ => fun
  | [d1, d2, d3, d4] => { results := [.lit (.bool false)], args := [d1, d2, d3, d4] }
  | _ => none }
def SightTellsWrongFalsely : Prop := sightTellsRow.holds Tryd.pinned (OpenSpec.ofChange sightTellsWrong)

/-- 'framelaw4.PurgeTwice': WHATEVER THE INPUT: true; the input reads as it did. -/
def purgeTwiceSpec : ChangeSpec := { name := "purgeTwice", fn := fun _ => fun
  | [d1, d2] => { results := [.lit (.bool true)], args := [d1, d2] }
  | _ => none }
def purgeTwiceRow : OpenClaim := { program := "ytnighanlonkjbaadoor", sum := "65ce0b694272ae04560f35740cb9d0fe7a2daa352e82ef60f886a3468bedc127", func := "framekeep/framelaw4.PurgeTwice", spec := "purgeTwice", unfollowed := true, recurses := true, named := ["framekeep/code.forms"], apart := false, laid := [("framekeep/code.forms", laid_framekeep_code_forms)] }
def PurgeTwiceSaid : Prop := purgeTwiceRow.holds Tryd.pinned (OpenSpec.ofChange purgeTwiceSpec)

/-- ITS FALSE NEIGHBOUR: 'it returns false'. Refute it at one input. -/
def purgeTwiceWrong : ChangeSpec := { name := "purgeTwice", fn := fun _ => fun
  | [d1, d2] => { results := [.lit (.bool false)], args := [d1, d2] }
  | _ => none }
def PurgeTwiceWrongFalsely : Prop := purgeTwiceRow.holds Tryd.pinned (OpenSpec.ofChange purgeTwiceWrong)

/- THE SECOND FORM. 'bulk': how many values and letters a reading holds, each counted each time it is reached (what is shared counts as often as it is met; a slice's spare places count too). A statement '..UptoSaid' is the law's where the arguments, and the package variables that the reading takes, are together of bulk at most 1048576: NARROWER than '..Said'. Prove '..Said' where nothing that the law and all that it calls make is longer than what came in: it says more and counts as full. Else prove '..UptoSaid'. A law counts once. -/
mutual
def uptoBulk {H : Type} : DataW H → Nat
  | .lit (.string bytes) => bytes.length + 1
  | .lit _ => 1
  | .nil => 1
  | .ptr d => uptoBulk d + 1
  | .slice elems spare => uptoBulkAll elems + uptoBulkAll spare + 1
  | .agg parts => uptoBulkAll parts + 1
  | .iface _ d => uptoBulk d + 1
  | .map entries => uptoBulkEntries entries + 1
  | .held _ => 1
def uptoBulkAll {H : Type} : List (DataW H) → Nat
  | [] => 0
  | d :: r => uptoBulk d + uptoBulkAll r
def uptoBulkEntries {H : Type} : List (Lit × DataW H) → Nat
  | [] => 0
  | x :: r => uptoBulkEntry x + uptoBulkEntries r
def uptoBulkEntry {H : Type} : Lit × DataW H → Nat
  | (.string bytes, d) => bytes.length + uptoBulk d + 1
  | (_, d) => uptoBulk d + 1
 end
def uptoSmall : (H : Type) → List (DataW H) → Bool := fun _ ds => decide (uptoBulkAll ds ≤ 1048576)
def OpenSpec.upto (s : _root_.Go.ChangeSpec) : _root_.Go.OpenSpec := { _root_.Go.OpenSpec.ofChange s with cond := some uptoSmall }

/-- 'framelaw1.RoomStays', WHERE WHAT IT READS IS OF BULK AT MOST 1048576: true; the input reads as it did. -/
def roomStaysUptoRow : OpenClaim := { program := "ytnighanlonkjbaadoor", sum := "65ce0b694272ae04560f35740cb9d0fe7a2daa352e82ef60f886a3468bedc127", func := "framekeep/framelaw1.RoomStays", spec := "roomStays", unfollowed := true, recurses := true, named := ["framekeep/code.forms"], apart := false, laid := [("framekeep/code.forms", laid_framekeep_code_forms)], narrowed := true }
def RoomStaysUptoSaid : Prop := roomStaysUptoRow.holds Tryd.pinned (OpenSpec.upto roomStaysSpec)

/-- 'framelaw4.RoomCounts', WHERE WHAT IT READS IS OF BULK AT MOST 1048576: true; the input reads as it did. -/
def roomCountsUptoRow : OpenClaim := { program := "ytnighanlonkjbaadoor", sum := "65ce0b694272ae04560f35740cb9d0fe7a2daa352e82ef60f886a3468bedc127", func := "framekeep/framelaw4.RoomCounts", spec := "roomCounts", unfollowed := true, recurses := true, named := ["framekeep/code.forms"], apart := false, laid := [("framekeep/code.forms", laid_framekeep_code_forms)], narrowed := true }
def RoomCountsUptoSaid : Prop := roomCountsUptoRow.holds Tryd.pinned (OpenSpec.upto roomCountsSpec)

/-- 'framelaw1.RoomTells', WHERE WHAT IT READS IS OF BULK AT MOST 1048576: true; the input reads as it did. -/
def roomTellsUptoRow : OpenClaim := { program := "ytnighanlonkjbaadoor", sum := "65ce0b694272ae04560f35740cb9d0fe7a2daa352e82ef60f886a3468bedc127", func := "framekeep/framelaw1.RoomTells", spec := "roomTells", inPlace := ["internal/reflectlite.ValueOf", "(internal/reflectlite.Value).Type", "(internal/reflectlite.Value).IsNil", "internal/reflectlite.TypeOf", "(internal/reflectlite.Value).Elem", "(internal/reflectlite.Value).Set"], unfollowed := true, recurses := true, named := ["framekeep/code.forms", "errors.errorType"], apart := false, laid := [("errors.errorType", laid_errors_errorType), ("framekeep/code.forms", laid_framekeep_code_forms)], narrowed := true }
def RoomTellsUptoSaid : Prop := roomTellsUptoRow.holds Tryd.pinned (OpenSpec.upto roomTellsSpec)

/-- 'framelaw1.WirePlays', WHERE WHAT IT READS IS OF BULK AT MOST 1048576: true; the input reads as it did. -/
def wirePlaysUptoRow : OpenClaim := { program := "ytnighanlonkjbaadoor", sum := "65ce0b694272ae04560f35740cb9d0fe7a2daa352e82ef60f886a3468bedc127", func := "framekeep/framelaw1.WirePlays", spec := "wirePlays", inPlace := ["internal/reflectlite.ValueOf", "(internal/reflectlite.Value).Type", "(internal/reflectlite.Value).IsNil", "internal/reflectlite.TypeOf", "(internal/reflectlite.Value).Elem", "(internal/reflectlite.Value).Set"], unfollowed := true, recurses := true, named := ["errors.errorType"], apart := false, laid := [("errors.errorType", laid_errors_errorType)], narrowed := true }
def WirePlaysUptoSaid : Prop := wirePlaysUptoRow.holds Tryd.pinned (OpenSpec.upto wirePlaysSpec)

/-- 'framelaw4.PlanPorts', WHERE WHAT IT READS IS OF BULK AT MOST 1048576: true; the input reads as it did. -/
def planPortsUptoRow : OpenClaim := { program := "ytnighanlonkjbaadoor", sum := "65ce0b694272ae04560f35740cb9d0fe7a2daa352e82ef60f886a3468bedc127", func := "framekeep/framelaw4.PlanPorts", spec := "planPorts", inPlace := ["internal/reflectlite.ValueOf", "(internal/reflectlite.Value).Type", "(internal/reflectlite.Value).IsNil", "internal/reflectlite.TypeOf", "(internal/reflectlite.Value).Elem", "(internal/reflectlite.Value).Set"], unfollowed := true, recurses := true, named := ["framekeep/code.forms", "errors.errorType"], apart := false, laid := [("errors.errorType", laid_errors_errorType), ("framekeep/code.forms", laid_framekeep_code_forms)], narrowed := true }
def PlanPortsUptoSaid : Prop := planPortsUptoRow.holds Tryd.pinned (OpenSpec.upto planPortsSpec)

/-- 'framelaw4.KernelCounts', WHERE WHAT IT READS IS OF BULK AT MOST 1048576: true; the input reads as it did. -/
def kernelCountsUptoRow : OpenClaim := { program := "ytnighanlonkjbaadoor", sum := "65ce0b694272ae04560f35740cb9d0fe7a2daa352e82ef60f886a3468bedc127", func := "framekeep/framelaw4.KernelCounts", spec := "kernelCounts", unfollowed := true, recurses := true, named := ["framekeep/code.forms"], apart := false, laid := [("framekeep/code.forms", laid_framekeep_code_forms)], narrowed := true }
def KernelCountsUptoSaid : Prop := kernelCountsUptoRow.holds Tryd.pinned (OpenSpec.upto kernelCountsSpec)

/-- 'framelaw1.KernelTurns', WHERE WHAT IT READS IS OF BULK AT MOST 1048576: true; the input reads as it did. -/
def kernelTurnsUptoRow : OpenClaim := { program := "ytnighanlonkjbaadoor", sum := "65ce0b694272ae04560f35740cb9d0fe7a2daa352e82ef60f886a3468bedc127", func := "framekeep/framelaw1.KernelTurns", spec := "kernelTurns", unfollowed := true, recurses := true, named := ["framekeep/code.forms"], apart := false, laid := [("framekeep/code.forms", laid_framekeep_code_forms)], narrowed := true }
def KernelTurnsUptoSaid : Prop := kernelTurnsUptoRow.holds Tryd.pinned (OpenSpec.upto kernelTurnsSpec)

/-- 'framelaw1.KernelPlays', WHERE WHAT IT READS IS OF BULK AT MOST 1048576: true; the input reads as it did. -/
def kernelPlaysUptoRow : OpenClaim := { program := "ytnighanlonkjbaadoor", sum := "65ce0b694272ae04560f35740cb9d0fe7a2daa352e82ef60f886a3468bedc127", func := "framekeep/framelaw1.KernelPlays", spec := "kernelPlays", inPlace := ["internal/reflectlite.ValueOf", "(internal/reflectlite.Value).Type", "(internal/reflectlite.Value).IsNil", "internal/reflectlite.TypeOf", "(internal/reflectlite.Value).Elem", "(internal/reflectlite.Value).Set"], unfollowed := true, recurses := true, named := ["framekeep/code.forms", "errors.errorType"], apart := false, laid := [("errors.errorType", laid_errors_errorType), ("framekeep/code.forms", laid_framekeep_code_forms)], narrowed := true }
def KernelPlaysUptoSaid : Prop := kernelPlaysUptoRow.holds Tryd.pinned (OpenSpec.upto kernelPlaysSpec)

/-- 'framelaw4.SightLong', WHERE WHAT IT READS IS OF BULK AT MOST 1048576: true; the input reads as it did. -/
def sightLongUptoRow : OpenClaim := { program := "ytnighanlonkjbaadoor", sum := "65ce0b694272ae04560f35740cb9d0fe7a2daa352e82ef60f886a3468bedc127", func := "framekeep/framelaw4.SightLong", spec := "sightLong", unfollowed := true, recurses := true, named := ["framekeep/code.forms"], apart := false, laid := [("framekeep/code.forms", laid_framekeep_code_forms)], narrowed := true }
def SightLongUptoSaid : Prop := sightLongUptoRow.holds Tryd.pinned (OpenSpec.upto sightLongSpec)

/-- 'framelaw1.SightSame', WHERE WHAT IT READS IS OF BULK AT MOST 1048576: true; the input reads as it did. -/
def sightSameUptoRow : OpenClaim := { program := "ytnighanlonkjbaadoor", sum := "65ce0b694272ae04560f35740cb9d0fe7a2daa352e82ef60f886a3468bedc127", func := "framekeep/framelaw1.SightSame", spec := "sightSame", unfollowed := true, recurses := true, named := ["framekeep/code.forms"], apart := false, laid := [("framekeep/code.forms", laid_framekeep_code_forms)], narrowed := true }
def SightSameUptoSaid : Prop := sightSameUptoRow.holds Tryd.pinned (OpenSpec.upto sightSameSpec)

/-- 'framelaw1.SightTells', WHERE WHAT IT READS IS OF BULK AT MOST 1048576: true; the input reads as it did. -/
def sightTellsUptoRow : OpenClaim := { program := "ytnighanlonkjbaadoor", sum := "65ce0b694272ae04560f35740cb9d0fe7a2daa352e82ef60f886a3468bedc127", func := "framekeep/framelaw1.SightTells", spec := "sightTells", inPlace := ["internal/reflectlite.ValueOf", "(internal/reflectlite.Value).Type", "(internal/reflectlite.Value).IsNil", "internal/reflectlite.TypeOf", "(internal/reflectlite.Value).Elem", "(internal/reflectlite.Value).Set"], unfollowed := true, recurses := true, named := ["framekeep/code.forms", "errors.errorType"], apart := false, laid := [("errors.errorType", laid_errors_errorType), ("framekeep/code.forms", laid_framekeep_code_forms)], narrowed := true }
def SightTellsUptoSaid : Prop := sightTellsUptoRow.holds Tryd.pinned (OpenSpec.upto sightTellsSpec)

/-- 'framelaw4.PurgeTwice', WHERE WHAT IT READS IS OF BULK AT MOST 1048576: true; the input reads as it did. -/
def purgeTwiceUptoRow : OpenClaim := { program := "ytnighanlonkjbaadoor", sum := "65ce0b694272ae04560f35740cb9d0fe7a2daa352e82ef60f886a3468bedc127", func := "framekeep/framelaw4.PurgeTwice", spec := "purgeTwice", unfollowed := true, recurses := true, named := ["framekeep/code.forms"], apart := false, laid := [("framekeep/code.forms", laid_framekeep_code_forms)], narrowed := true }
def PurgeTwiceUptoSaid : Prop := purgeTwiceUptoRow.holds Tryd.pinned (OpenSpec.upto purgeTwiceSpec)

end Rows
end Go.Proofs.YtnighanlonkjbaaDoor
