/-
  NARROWER THAN 'FOR EVERY INPUT', by the rows' own cells (each row's printed sentence says how): AloneCounts: laid · AloneAgain: laid · AlonePlays: laid · SpreadCounts: laid · SpreadSame: laid · SpreadPlays: laid · TablesOne: laid · TablesWhole: laid · TablesPlay: laid · PurgeSame: laid · PurgeTells: laid · TopApart: laid · CarePlays: laid · TraceTurns: laid.
  DERIVED. THE GIVEN ROWS OF THIS SEAT. 14 by the template 'for every input the law returns true; each argument reads behind the call as it read before'; 0 by the template 'total and deterministic' (their statements: YtongkiccglaniaaDoorTotals.lean).
  GIVEN WITH THE SEED: the statements are not yours to turn. If you find one false, say at which input.
  Laid BY PROGRAM, IN A SANDBOX (cutbox-rows.mjs): the forced cells as the released guide's own fill.sh prints them over the translation 2f419254c47bcd7b… (all of the seat's roots in one cut). By AI agents, Wed Nov 11 2026. No macro, syntax, notation, axiom, sorry.
-/
import Derived.Test.YtongkiccglaniaaDoorChecked
import GoSem.Claim
import GoSem.ClaimJoined
import GoSem.ClaimMapViews
import Derived.JoinedTies
import Derived.KernelRfl
namespace Go.Proofs.YtongkiccglaniaaDoor
/- THE CELL 'sum', in the pinned program and in every row, IS THE sha256 OF THE DUMP (.gsa) THAT YtongkiccglaniaaDoorProg.lean LOADS. Nothing in Lean hashes anything: it is a label: what it is worth is what the hold of that sum in a sandbox is worth. -/
noncomputable def Tryd.pinned : Pinned := { name := "ytongkiccglaniaadoor", sum := "2f419254c47bcd7b05b0ddcf170428eba3432d6c29ba67a6801fb7a2f62a38ac", checked := Tryd.checked }
namespace Rows
def none {H : Type} : Left H := { results := [], args := [] }

/- WHAT THE LISTED PACKAGE-LEVEL VARIABLES READ AS WHEN THE CALL BEGINS. Each datum BY PROGRAM (the guide's laid-datum.mjs) off the statement by which the dump's own 'gosem.cut.vars' lays the variable. In a bare row this is a premise. The card (YtongkiccglaniaaDoorCards.lean) ties it to the program's text. -/
def laid_framekeep_code_forms {H : Type} : DataW H := .agg [.agg [.lit (.string []), .lit (.bool false), .lit (.bool false)], .agg [.lit (.string [115, 101, 116]), .lit (.bool true), .lit (.bool true)], .agg [.lit (.string [99, 111, 112, 121]), .lit (.bool true), .lit (.bool true)], .agg [.lit (.string [97, 100, 100]), .lit (.bool true), .lit (.bool true)], .agg [.lit (.string [115, 117, 98]), .lit (.bool true), .lit (.bool true)], .agg [.lit (.string [109, 117, 108]), .lit (.bool true), .lit (.bool true)], .agg [.lit (.string [122, 101, 114, 111]), .lit (.bool true), .lit (.bool true)], .agg [.lit (.string [106, 117, 109, 112]), .lit (.bool false), .lit (.bool true)], .agg [.lit (.string [115, 101, 110, 100]), .lit (.bool true), .lit (.bool true)], .agg [.lit (.string [116, 97, 107, 101]), .lit (.bool true), .lit (.bool true)], .agg [.lit (.string [114, 101, 115, 116]), .lit (.bool false), .lit (.bool false)], .agg [.lit (.string [102, 97, 105, 108]), .lit (.bool false), .lit (.bool false)]]
def laid_errors_errorType {H : Type} : DataW H := .iface "internal/reflectlite.rtype" (.agg [.ptr (.lit (.string [101, 114, 114, 111, 114]))])

/-- 'framelaw4.AloneCounts': WHATEVER THE INPUT: true; the input reads as it did. -/
def aloneCountsSpec : ChangeSpec := { name := "aloneCounts", fn := fun _ => fun
  | [d] => { results := [.lit (.bool true)], args := [d] }
  | _ => none }
def aloneCountsRow : OpenClaim := { program := "ytongkiccglaniaadoor", sum := "2f419254c47bcd7b05b0ddcf170428eba3432d6c29ba67a6801fb7a2f62a38ac", func := "framekeep/framelaw4.AloneCounts", spec := "aloneCounts", unfollowed := true, recurses := true, named := ["framekeep/code.forms"], apart := false, laid := [("framekeep/code.forms", laid_framekeep_code_forms)] }
def AloneCountsSaid : Prop := aloneCountsRow.holds Tryd.pinned (OpenSpec.ofChange aloneCountsSpec)

/-- ITS FALSE NEIGHBOUR: 'it returns false'. Refute it at one input. -/
def aloneCountsWrong : ChangeSpec := { name := "aloneCounts", fn := fun _ => fun
  | [d] => { results := [.lit (.bool false)], args := [d] }
  | _ => none }
def AloneCountsWrongFalsely : Prop := aloneCountsRow.holds Tryd.pinned (OpenSpec.ofChange aloneCountsWrong)

/-- 'framelaw2.AloneAgain': WHATEVER THE INPUT: true; the input reads as it did. -/
def aloneAgainSpec : ChangeSpec := { name := "aloneAgain", fn := fun _ => fun
  | [d1, d2, d3] => { results := [.lit (.bool true)], args := [d1, d2, d3] }
  | _ => none }
def aloneAgainRow : OpenClaim := { program := "ytongkiccglaniaadoor", sum := "2f419254c47bcd7b05b0ddcf170428eba3432d6c29ba67a6801fb7a2f62a38ac", func := "framekeep/framelaw2.AloneAgain", spec := "aloneAgain", inPlace := ["internal/reflectlite.ValueOf", "(internal/reflectlite.Value).Type", "(internal/reflectlite.Value).IsNil", "internal/reflectlite.TypeOf", "(internal/reflectlite.Value).Elem", "(internal/reflectlite.Value).Set"], unfollowed := true, recurses := true, named := ["framekeep/code.forms", "errors.errorType"], apart := false, laid := [("errors.errorType", laid_errors_errorType), ("framekeep/code.forms", laid_framekeep_code_forms)] }
def AloneAgainSaid : Prop := aloneAgainRow.holds Tryd.pinned (OpenSpec.ofChange aloneAgainSpec)

/-- ITS FALSE NEIGHBOUR: 'it returns false'. Refute it at one input. -/
def aloneAgainWrong : ChangeSpec := { name := "aloneAgain", fn := fun _ => fun
  | [d1, d2, d3] => { results := [.lit (.bool false)], args := [d1, d2, d3] }
  | _ => none }
def AloneAgainWrongFalsely : Prop := aloneAgainRow.holds Tryd.pinned (OpenSpec.ofChange aloneAgainWrong)

/-- 'framelaw2.AlonePlays': WHATEVER THE INPUT: true; the input reads as it did. -/
def alonePlaysSpec : ChangeSpec := { name := "alonePlays", fn := fun _ => fun
  | [d1, d2, d3] => { results := [.lit (.bool true)], args := [d1, d2, d3] }
  | _ => none }
def alonePlaysRow : OpenClaim := { program := "ytongkiccglaniaadoor", sum := "2f419254c47bcd7b05b0ddcf170428eba3432d6c29ba67a6801fb7a2f62a38ac", func := "framekeep/framelaw2.AlonePlays", spec := "alonePlays", inPlace := ["internal/reflectlite.ValueOf", "(internal/reflectlite.Value).Type", "(internal/reflectlite.Value).IsNil", "internal/reflectlite.TypeOf", "(internal/reflectlite.Value).Elem", "(internal/reflectlite.Value).Set"], unfollowed := true, recurses := true, named := ["framekeep/code.forms", "errors.errorType"], apart := false, laid := [("errors.errorType", laid_errors_errorType), ("framekeep/code.forms", laid_framekeep_code_forms)] }
def AlonePlaysSaid : Prop := alonePlaysRow.holds Tryd.pinned (OpenSpec.ofChange alonePlaysSpec)

/-- ITS FALSE NEIGHBOUR: 'it returns false'. Refute it at one input. -/
def alonePlaysWrong : ChangeSpec := { name := "alonePlays", fn := fun _ => fun
  | [d1, d2, d3] => { results := [.lit (.bool false)], args := [d1, d2, d3] }
  | _ => none }
def AlonePlaysWrongFalsely : Prop := alonePlaysRow.holds Tryd.pinned (OpenSpec.ofChange alonePlaysWrong)

/-- 'framelaw4.SpreadCounts': WHATEVER THE INPUT: true; the input reads as it did. -/
def spreadCountsSpec : ChangeSpec := { name := "spreadCounts", fn := fun _ => fun
  | [d1, d2] => { results := [.lit (.bool true)], args := [d1, d2] }
  | _ => none }
def spreadCountsRow : OpenClaim := { program := "ytongkiccglaniaadoor", sum := "2f419254c47bcd7b05b0ddcf170428eba3432d6c29ba67a6801fb7a2f62a38ac", func := "framekeep/framelaw4.SpreadCounts", spec := "spreadCounts", unfollowed := true, recurses := true, named := ["framekeep/code.forms"], apart := false, laid := [("framekeep/code.forms", laid_framekeep_code_forms)] }
def SpreadCountsSaid : Prop := spreadCountsRow.holds Tryd.pinned (OpenSpec.ofChange spreadCountsSpec)

/-- ITS FALSE NEIGHBOUR: 'it returns false'. Refute it at one input. -/
def spreadCountsWrong : ChangeSpec := { name := "spreadCounts", fn := fun _ => fun
  | [d1, d2] => { results := [.lit (.bool false)], args := [d1, d2] }
  | _ => none }
def SpreadCountsWrongFalsely : Prop := spreadCountsRow.holds Tryd.pinned (OpenSpec.ofChange spreadCountsWrong)

/-- 'framelaw3.SpreadSame': WHATEVER THE INPUT: true; the input reads as it did. -/
def spreadSameSpec : ChangeSpec := { name := "spreadSame", fn := fun _ => fun
  | [d1, d2] => { results := [.lit (.bool true)], args := [d1, d2] }
  | _ => none }
def spreadSameRow : OpenClaim := { program := "ytongkiccglaniaadoor", sum := "2f419254c47bcd7b05b0ddcf170428eba3432d6c29ba67a6801fb7a2f62a38ac", func := "framekeep/framelaw3.SpreadSame", spec := "spreadSame", unfollowed := true, recurses := true, named := ["framekeep/code.forms"], apart := false, laid := [("framekeep/code.forms", laid_framekeep_code_forms)] }
def SpreadSameSaid : Prop := spreadSameRow.holds Tryd.pinned (OpenSpec.ofChange spreadSameSpec)

/-- ITS FALSE NEIGHBOUR: 'it returns false'. Refute it at one input. -/
def spreadSameWrong : ChangeSpec := { name := "spreadSame", fn := fun _ => fun
  | [d1, d2] => { results := [.lit (.bool false)], args := [d1, d2] }
  | _ => none }
def SpreadSameWrongFalsely : Prop := spreadSameRow.holds Tryd.pinned (OpenSpec.ofChange spreadSameWrong)

/-- 'framelaw3.SpreadPlays': WHATEVER THE INPUT: true; the input reads as it did. -/
def spreadPlaysSpec : ChangeSpec := { name := "spreadPlays", fn := fun _ => fun
  | [d1, d2, d3, d4] => { results := [.lit (.bool true)], args := [d1, d2, d3, d4] }
  | _ => none }
def spreadPlaysRow : OpenClaim := { program := "ytongkiccglaniaadoor", sum := "2f419254c47bcd7b05b0ddcf170428eba3432d6c29ba67a6801fb7a2f62a38ac", func := "framekeep/framelaw3.SpreadPlays", spec := "spreadPlays", inPlace := ["internal/reflectlite.ValueOf", "(internal/reflectlite.Value).Type", "(internal/reflectlite.Value).IsNil", "internal/reflectlite.TypeOf", "(internal/reflectlite.Value).Elem", "(internal/reflectlite.Value).Set"], unfollowed := true, recurses := true, named := ["framekeep/code.forms", "errors.errorType"], apart := false, laid := [("errors.errorType", laid_errors_errorType), ("framekeep/code.forms", laid_framekeep_code_forms)] }
def SpreadPlaysSaid : Prop := spreadPlaysRow.holds Tryd.pinned (OpenSpec.ofChange spreadPlaysSpec)

/-- ITS FALSE NEIGHBOUR: 'it returns false'. Refute it at one input. -/
def spreadPlaysWrong : ChangeSpec := { name := "spreadPlays", fn := fun _ => fun
  | [d1, d2, d3, d4] => { results := [.lit (.bool false)], args := [d1, d2, d3, d4] }
  | _ => none }
def SpreadPlaysWrongFalsely : Prop := spreadPlaysRow.holds Tryd.pinned (OpenSpec.ofChange spreadPlaysWrong)

/-- 'framelaw4.TablesOne': WHATEVER THE INPUT: true; the input reads as it did. -/
def tablesOneSpec : ChangeSpec := { name := "tablesOne", fn := fun _ => fun
  | [d1, d2, d3] => { results := [.lit (.bool true)], args := [d1, d2, d3] }
  | _ => none }
def tablesOneRow : OpenClaim := { program := "ytongkiccglaniaadoor", sum := "2f419254c47bcd7b05b0ddcf170428eba3432d6c29ba67a6801fb7a2f62a38ac", func := "framekeep/framelaw4.TablesOne", spec := "tablesOne", inPlace := ["internal/reflectlite.ValueOf", "(internal/reflectlite.Value).Type", "(internal/reflectlite.Value).IsNil", "internal/reflectlite.TypeOf", "(internal/reflectlite.Value).Elem", "(internal/reflectlite.Value).Set"], unfollowed := true, recurses := true, named := ["framekeep/code.forms", "errors.errorType"], apart := false, laid := [("errors.errorType", laid_errors_errorType), ("framekeep/code.forms", laid_framekeep_code_forms)] }
def TablesOneSaid : Prop := tablesOneRow.holds Tryd.pinned (OpenSpec.ofChange tablesOneSpec)

/-- ITS FALSE NEIGHBOUR: 'it returns false'. Refute it at one input. -/
def tablesOneWrong : ChangeSpec := { name := "tablesOne", fn := fun _ => fun
  | [d1, d2, d3] => { results := [.lit (.bool false)], args := [d1, d2, d3] }
  | _ => none }
def TablesOneWrongFalsely : Prop := tablesOneRow.holds Tryd.pinned (OpenSpec.ofChange tablesOneWrong)

/-- 'framelaw2.TablesWhole': WHATEVER THE INPUT: true; the input reads as it did. -/
def tablesWholeSpec : ChangeSpec := { name := "tablesWhole", fn := fun _ => fun
  | [d1, d2, d3] => { results := [.lit (.bool true)], args := [d1, d2, d3] }
  | _ => none }
def tablesWholeRow : OpenClaim := { program := "ytongkiccglaniaadoor", sum := "2f419254c47bcd7b05b0ddcf170428eba3432d6c29ba67a6801fb7a2f62a38ac", func := "framekeep/framelaw2.TablesWhole", spec := "tablesWhole", unfollowed := true, recurses := true, named := ["framekeep/code.forms"], apart := false, laid := [("framekeep/code.forms", laid_framekeep_code_forms)] }
def TablesWholeSaid : Prop := tablesWholeRow.holds Tryd.pinned (OpenSpec.ofChange tablesWholeSpec)

/-- ITS FALSE NEIGHBOUR: 'it returns false'. Refute it at one input. -/
def tablesWholeWrong : ChangeSpec := { name := "tablesWhole", fn := fun _ => fun
  | [d1, d2, d3] => { results := [.lit (.bool false)], args := [d1, d2, d3] }
  | _ => none }
def TablesWholeWrongFalsely : Prop := tablesWholeRow.holds Tryd.pinned (OpenSpec.ofChange tablesWholeWrong)

/-- 'framelaw2.TablesPlay': WHATEVER THE INPUT: true; the input reads as it did. -/
def tablesPlaySpec : ChangeSpec := { name := "tablesPlay", fn := fun _ => fun
  | [d1, d2, d3, d4] => { results := [.lit (.bool true)], args := [d1, d2, d3, d4] }
  | _ => none }
def tablesPlayRow : OpenClaim := { program := "ytongkiccglaniaadoor", sum := "2f419254c47bcd7b05b0ddcf170428eba3432d6c29ba67a6801fb7a2f62a38ac", func := "framekeep/framelaw2.TablesPlay", spec := "tablesPlay", inPlace := ["internal/reflectlite.ValueOf", "(internal/reflectlite.Value).Type", "(internal/reflectlite.Value).IsNil", "internal/reflectlite.TypeOf", "(internal/reflectlite.Value).Elem", "(internal/reflectlite.Value).Set"], unfollowed := true, recurses := true, named := ["framekeep/code.forms", "errors.errorType"], apart := false, laid := [("errors.errorType", laid_errors_errorType), ("framekeep/code.forms", laid_framekeep_code_forms)] }
def TablesPlaySaid : Prop := tablesPlayRow.holds Tryd.pinned (OpenSpec.ofChange tablesPlaySpec)

/-- ITS FALSE NEIGHBOUR: 'it returns false'. Refute it at one input. -/
def tablesPlayWrong : ChangeSpec := { name := "tablesPlay", fn := fun _ => fun
  | [d1, d2, d3, d4] => { results := [.lit (.bool false)], args := [d1, d2, d3, d4] }
  | _ => none }
def TablesPlayWrongFalsely : Prop := tablesPlayRow.holds Tryd.pinned (OpenSpec.ofChange tablesPlayWrong)

/-- 'framelaw2.PurgeSame': WHATEVER THE INPUT: true; the input reads as it did. -/
def purgeSameSpec : ChangeSpec := { name := "purgeSame", fn := fun _ => fun
  | [d1, d2, d3] => { results := [.lit (.bool true)], args := [d1, d2, d3] }
  | _ => none }
def purgeSameRow : OpenClaim := { program := "ytongkiccglaniaadoor", sum := "2f419254c47bcd7b05b0ddcf170428eba3432d6c29ba67a6801fb7a2f62a38ac", func := "framekeep/framelaw2.PurgeSame", spec := "purgeSame", unfollowed := true, recurses := true, named := ["framekeep/code.forms"], apart := false, laid := [("framekeep/code.forms", laid_framekeep_code_forms)] }
def PurgeSameSaid : Prop := purgeSameRow.holds Tryd.pinned (OpenSpec.ofChange purgeSameSpec)

/-- ITS FALSE NEIGHBOUR: 'it returns false'. Refute it at one input. -/
def purgeSameWrong : ChangeSpec := { name := "purgeSame", fn := fun _ => fun
  | [d1, d2, d3] => { results := [.lit (.bool false)], args := [d1, d2, d3] }
  | _ => none }
def PurgeSameWrongFalsely : Prop := purgeSameRow.holds Tryd.pinned (OpenSpec.ofChange purgeSameWrong)

/-- 'framelaw2.PurgeTells': WHATEVER THE INPUT: true; the input reads as it did. -/
def purgeTellsSpec : ChangeSpec := { name := "purgeTells", fn := fun _ => fun
  | [d1, d2, d3, d4] => { results := [.lit (.bool true)], args := [d1, d2, d3, d4] }
  | _ => none }
def purgeTellsRow : OpenClaim := { program := "ytongkiccglaniaadoor", sum := "2f419254c47bcd7b05b0ddcf170428eba3432d6c29ba67a6801fb7a2f62a38ac", func := "framekeep/framelaw2.PurgeTells", spec := "purgeTells", inPlace := ["internal/reflectlite.ValueOf", "(internal/reflectlite.Value).Type", "(internal/reflectlite.Value).IsNil", "internal/reflectlite.TypeOf", "(internal/reflectlite.Value).Elem", "(internal/reflectlite.Value).Set"], unfollowed := true, recurses := true, named := ["framekeep/code.forms", "errors.errorType"], apart := false, laid := [("errors.errorType", laid_errors_errorType), ("framekeep/code.forms", laid_framekeep_code_forms)] }
def PurgeTellsSaid : Prop := purgeTellsRow.holds Tryd.pinned (OpenSpec.ofChange purgeTellsSpec)

/-- ITS FALSE NEIGHBOUR: 'it returns false'. Refute it at one input. -/
def purgeTellsWrong : ChangeSpec := { name := "purgeTells", fn := fun _ => fun
  | [d1, d2, d3, d4] => { results := [.lit (.bool false)], args := [d1, d2, d3, d4] }
  | _ => none }
def PurgeTellsWrongFalsely : Prop := purgeTellsRow.holds Tryd.pinned (OpenSpec.ofChange purgeTellsWrong)

/-- 'frametop.TopApart': WHATEVER THE INPUT: true; the input reads as it did. -/
def topApartSpec : ChangeSpec := { name := "topApart", fn := fun _ => fun
  | [d1, d2, d3, d4, d5, d6, d7] => { results := [.lit (.bool true)], args := [d1, d2, d3, d4, d5, d6, d7] }
  | _ => none }
def topApartRow : OpenClaim := { program := "ytongkiccglaniaadoor", sum := "2f419254c47bcd7b05b0ddcf170428eba3432d6c29ba67a6801fb7a2f62a38ac", func := "framekeep/frametop.TopApart", spec := "topApart", unfollowed := true, recurses := true, named := ["framekeep/code.forms"], apart := false, laid := [("framekeep/code.forms", laid_framekeep_code_forms)] }
def TopApartSaid : Prop := topApartRow.holds Tryd.pinned (OpenSpec.ofChange topApartSpec)

/-- ITS FALSE NEIGHBOUR: 'it returns false'. Refute it at one input. -/
def topApartWrong : ChangeSpec := { name := "topApart", fn := fun _ => fun
  | [d1, d2, d3, d4, d5, d6, d7] => { results := [.lit (.bool false)], args := [d1, d2, d3, d4, d5, d6, d7] }
  | _ => none }
def TopApartWrongFalsely : Prop := topApartRow.holds Tryd.pinned (OpenSpec.ofChange topApartWrong)

/-- 'framelaw2.CarePlays': WHATEVER THE INPUT: true; the input reads as it did. -/
def carePlaysSpec : ChangeSpec := { name := "carePlays", fn := fun _ => fun
  | [d1, d2, d3, d4, d5] => { results := [.lit (.bool true)], args := [d1, d2, d3, d4, d5] }
  | _ => none }
def carePlaysRow : OpenClaim := { program := "ytongkiccglaniaadoor", sum := "2f419254c47bcd7b05b0ddcf170428eba3432d6c29ba67a6801fb7a2f62a38ac", func := "framekeep/framelaw2.CarePlays", spec := "carePlays", inPlace := ["internal/reflectlite.ValueOf", "(internal/reflectlite.Value).Type", "(internal/reflectlite.Value).IsNil", "internal/reflectlite.TypeOf", "(internal/reflectlite.Value).Elem", "(internal/reflectlite.Value).Set"], unfollowed := true, recurses := true, named := ["framekeep/code.forms", "errors.errorType"], apart := false, laid := [("errors.errorType", laid_errors_errorType), ("framekeep/code.forms", laid_framekeep_code_forms)] }
def CarePlaysSaid : Prop := carePlaysRow.holds Tryd.pinned (OpenSpec.ofChange carePlaysSpec)

/-- ITS FALSE NEIGHBOUR: 'it returns false'. Refute it at one input. -/
def carePlaysWrong : ChangeSpec := { name := "carePlays", fn := fun _ => fun
  | [d1, d2, d3, d4, d5] => { results := [.lit (.bool false)], args := [d1, d2, d3, d4, d5] }
  | _ => none }
def CarePlaysWrongFalsely : Prop := carePlaysRow.holds Tryd.pinned (OpenSpec.ofChange carePlaysWrong)

/-- 'framelaw4.TraceTurns': WHATEVER THE INPUT: true; the input reads as it did. -/
def traceTurnsSpec : ChangeSpec := { name := "traceTurns", fn := fun _ => fun
  | [d1, d2, d3] => { results := [.lit (.bool true)], args := [d1, d2, d3] }
  | _ => none }
def traceTurnsRow : OpenClaim := { program := "ytongkiccglaniaadoor", sum := "2f419254c47bcd7b05b0ddcf170428eba3432d6c29ba67a6801fb7a2f62a38ac", func := "framekeep/framelaw4.TraceTurns", spec := "traceTurns", inPlace := ["internal/reflectlite.ValueOf", "(internal/reflectlite.Value).Type", "(internal/reflectlite.Value).IsNil", "internal/reflectlite.TypeOf", "(internal/reflectlite.Value).Elem", "(internal/reflectlite.Value).Set"], unfollowed := true, recurses := true, named := ["errors.errorType", "framekeep/code.forms"], apart := false, laid := [("errors.errorType", laid_errors_errorType), ("framekeep/code.forms", laid_framekeep_code_forms)] }
def TraceTurnsSaid : Prop := traceTurnsRow.holds Tryd.pinned (OpenSpec.ofChange traceTurnsSpec)

/-- ITS FALSE NEIGHBOUR: 'it returns false'. Refute it at one input. -/
def traceTurnsWrong : ChangeSpec := { name := "traceTurns", fn := fun _ => fun
  | [d1, d2, d3] => { results := [.lit (.bool false)], args := [d1, d2, d3] }
  | _ => none }
def TraceTurnsWrongFalsely : Prop := traceTurnsRow.holds Tryd.pinned (OpenSpec.ofChange traceTurnsWrong)

/- THE SECOND FORM. 'bulk': how many values and letters a reading holds, each counted each time it is reached (what is shared counts as often as it is met; a slice's spare places count too). A statement '..UptoSaid' is the law's where the arguments, and the package variables that the reading takes, are together of bulk at most 1048576: NARROWER than '..Said'. Prove '..Said' where nothing that the law and all that it calls make is longer than what came in: it says more and counts as full. Else prove '..UptoSaid'. A law counts once. -/
mutual
def uptoBulk {H : Type} : DataW H → Nat
  | .lit (.string bytes) => bytes.length + 1
  | .lit _ => 1
  | .nil => 1
  | .ptr d => uptoBulk d + 1
  | .slice elems spare => uptoBulkAll elems + uptoBulkAll spare + 1
  | .agg parts => uptoBulkAll parts + 1
  | .iface _ d => uptoBulk d + 1
  | .map entries => uptoBulkEntries entries + 1
  | .held _ => 1
def uptoBulkAll {H : Type} : List (DataW H) → Nat
  | [] => 0
  | d :: r => uptoBulk d + uptoBulkAll r
def uptoBulkEntries {H : Type} : List (Lit × DataW H) → Nat
  | [] => 0
  | x :: r => uptoBulkEntry x + uptoBulkEntries r
def uptoBulkEntry {H : Type} : Lit × DataW H → Nat
  | (.string bytes, d) => bytes.length + uptoBulk d + 1
  | (_, d) => uptoBulk d + 1
 end
def uptoSmall : (H : Type) → List (DataW H) → Bool := fun _ ds => decide (uptoBulkAll ds ≤ 1048576)
def OpenSpec.upto (s : _root_.Go.ChangeSpec) : _root_.Go.OpenSpec := { _root_.Go.OpenSpec.ofChange s with cond := some uptoSmall }

/-- 'framelaw4.AloneCounts', WHERE WHAT IT READS IS OF BULK AT MOST 1048576: true; the input reads as it did. -/
def aloneCountsUptoRow : OpenClaim := { program := "ytongkiccglaniaadoor", sum := "2f419254c47bcd7b05b0ddcf170428eba3432d6c29ba67a6801fb7a2f62a38ac", func := "framekeep/framelaw4.AloneCounts", spec := "aloneCounts", unfollowed := true, recurses := true, named := ["framekeep/code.forms"], apart := false, laid := [("framekeep/code.forms", laid_framekeep_code_forms)], narrowed := true }
def AloneCountsUptoSaid : Prop := aloneCountsUptoRow.holds Tryd.pinned (OpenSpec.upto aloneCountsSpec)

/-- 'framelaw2.AloneAgain', WHERE WHAT IT READS IS OF BULK AT MOST 1048576: true; the input reads as it did. -/
def aloneAgainUptoRow : OpenClaim := { program := "ytongkiccglaniaadoor", sum := "2f419254c47bcd7b05b0ddcf170428eba3432d6c29ba67a6801fb7a2f62a38ac", func := "framekeep/framelaw2.AloneAgain", spec := "aloneAgain", inPlace := ["internal/reflectlite.ValueOf", "(internal/reflectlite.Value).Type", "(internal/reflectlite.Value).IsNil", "internal/reflectlite.TypeOf", "(internal/reflectlite.Value).Elem", "(internal/reflectlite.Value).Set"], unfollowed := true, recurses := true, named := ["framekeep/code.forms", "errors.errorType"], apart := false, laid := [("errors.errorType", laid_errors_errorType), ("framekeep/code.forms", laid_framekeep_code_forms)], narrowed := true }
def AloneAgainUptoSaid : Prop := aloneAgainUptoRow.holds Tryd.pinned (OpenSpec.upto aloneAgainSpec)

/-- 'framelaw2.AlonePlays', WHERE WHAT IT READS IS OF BULK AT MOST 1048576: true; the input reads as it did. -/
def alonePlaysUptoRow : OpenClaim := { program := "ytongkiccglaniaadoor", sum := "2f419254c47bcd7b05b0ddcf170428eba3432d6c29ba67a6801fb7a2f62a38ac", func := "framekeep/framelaw2.AlonePlays", spec := "alonePlays", inPlace := ["internal/reflectlite.ValueOf", "(internal/reflectlite.Value).Type", "(internal/reflectlite.Value).IsNil", "internal/reflectlite.TypeOf", "(internal/reflectlite.Value).Elem", "(internal/reflectlite.Value).Set"], unfollowed := true, recurses := true, named := ["framekeep/code.forms", "errors.errorType"], apart := false, laid := [("errors.errorType", laid_errors_errorType), ("framekeep/code.forms", laid_framekeep_code_forms)], narrowed := true }
def AlonePlaysUptoSaid : Prop := alonePlaysUptoRow.holds Tryd.pinned (OpenSpec.upto alonePlaysSpec)

/-- 'framelaw4.SpreadCounts', WHERE WHAT IT READS IS OF BULK AT MOST 1048576: true; the input reads as it did. -/
def spreadCountsUptoRow : OpenClaim := { program := "ytongkiccglaniaadoor", sum := "2f419254c47bcd7b05b0ddcf170428eba3432d6c29ba67a6801fb7a2f62a38ac", func := "framekeep/framelaw4.SpreadCounts", spec := "spreadCounts", unfollowed := true, recurses := true, named := ["framekeep/code.forms"], apart := false, laid := [("framekeep/code.forms", laid_framekeep_code_forms)], narrowed := true }
def SpreadCountsUptoSaid : Prop := spreadCountsUptoRow.holds Tryd.pinned (OpenSpec.upto spreadCountsSpec)

/-- 'framelaw3.SpreadSame', WHERE WHAT IT READS IS OF BULK AT MOST 1048576: true; the input reads as it did. -/
def spreadSameUptoRow : OpenClaim := { program := "ytongkiccglaniaadoor", sum := "2f419254c47bcd7b05b0ddcf170428eba3432d6c29ba67a6801fb7a2f62a38ac", func := "framekeep/framelaw3.SpreadSame", spec := "spreadSame", unfollowed := true, recurses := true, named := ["framekeep/code.forms"], apart := false, laid := [("framekeep/code.forms", laid_framekeep_code_forms)], narrowed := true }
def SpreadSameUptoSaid : Prop := spreadSameUptoRow.holds Tryd.pinned (OpenSpec.upto spreadSameSpec)

/-- 'framelaw3.SpreadPlays', WHERE WHAT IT READS IS OF BULK AT MOST 1048576: true; the input reads as it did. -/
def spreadPlaysUptoRow : OpenClaim := { program := "ytongkiccglaniaadoor", sum := "2f419254c47bcd7b05b0ddcf170428eba3432d6c29ba67a6801fb7a2f62a38ac", func := "framekeep/framelaw3.SpreadPlays", spec := "spreadPlays", inPlace := ["internal/reflectlite.ValueOf", "(internal/reflectlite.Value).Type", "(internal/reflectlite.Value).IsNil", "internal/reflectlite.TypeOf", "(internal/reflectlite.Value).Elem", "(internal/reflectlite.Value).Set"], unfollowed := true, recurses := true, named := ["framekeep/code.forms", "errors.errorType"], apart := false, laid := [("errors.errorType", laid_errors_errorType), ("framekeep/code.forms", laid_framekeep_code_forms)], narrowed := true }
def SpreadPlaysUptoSaid : Prop := spreadPlaysUptoRow.holds Tryd.pinned (OpenSpec.upto spreadPlaysSpec)

/-- 'framelaw4.TablesOne', WHERE WHAT IT READS IS OF BULK AT MOST 1048576: true; the input reads as it did. -/
def tablesOneUptoRow : OpenClaim := { program := "ytongkiccglaniaadoor", sum := "2f419254c47bcd7b05b0ddcf170428eba3432d6c29ba67a6801fb7a2f62a38ac", func := "framekeep/framelaw4.TablesOne", spec := "tablesOne", inPlace := ["internal/reflectlite.ValueOf", "(internal/reflectlite.Value).Type", "(internal/reflectlite.Value).IsNil", "internal/reflectlite.TypeOf", "(internal/reflectlite.Value).Elem", "(internal/reflectlite.Value).Set"], unfollowed := true, recurses := true, named := ["framekeep/code.forms", "errors.errorType"], apart := false, laid := [("errors.errorType", laid_errors_errorType), ("framekeep/code.forms", laid_framekeep_code_forms)], narrowed := true }
def TablesOneUptoSaid : Prop := tablesOneUptoRow.holds Tryd.pinned (OpenSpec.upto tablesOneSpec)

/-- 'framelaw2.TablesWhole', WHERE WHAT IT READS IS OF BULK AT MOST 1048576: true; the input reads as it did. -/
def tablesWholeUptoRow : OpenClaim := { program := "ytongkiccglaniaadoor", sum := "2f419254c47bcd7b05b0ddcf170428eba3432d6c29ba67a6801fb7a2f62a38ac", func := "framekeep/framelaw2.TablesWhole", spec := "tablesWhole", unfollowed := true, recurses := true, named := ["framekeep/code.forms"], apart := false, laid := [("framekeep/code.forms", laid_framekeep_code_forms)], narrowed := true }
def TablesWholeUptoSaid : Prop := tablesWholeUptoRow.holds Tryd.pinned (OpenSpec.upto tablesWholeSpec)

/-- 'framelaw2.TablesPlay', WHERE WHAT IT READS IS OF BULK AT MOST 1048576: true; the input reads as it did. -/
def tablesPlayUptoRow : OpenClaim := { program := "ytongkiccglaniaadoor", sum := "2f419254c47bcd7b05b0ddcf170428eba3432d6c29ba67a6801fb7a2f62a38ac", func := "framekeep/framelaw2.TablesPlay", spec := "tablesPlay", inPlace := ["internal/reflectlite.ValueOf", "(internal/reflectlite.Value).Type", "(internal/reflectlite.Value).IsNil", "internal/reflectlite.TypeOf", "(internal/reflectlite.Value).Elem", "(internal/reflectlite.Value).Set"], unfollowed := true, recurses := true, named := ["framekeep/code.forms", "errors.errorType"], apart := false, laid := [("errors.errorType", laid_errors_errorType), ("framekeep/code.forms", laid_framekeep_code_forms)], narrowed := true }
def TablesPlayUptoSaid : Prop := tablesPlayUptoRow.holds Tryd.pinned (OpenSpec.upto tablesPlaySpec)

/-- 'framelaw2.PurgeSame', WHERE WHAT IT READS IS OF BULK AT MOST 1048576: true; the input reads as it did. -/
def purgeSameUptoRow : OpenClaim := { program := "ytongkiccglaniaadoor", sum := "2f419254c47bcd7b05b0ddcf170428eba3432d6c29ba67a6801fb7a2f62a38ac", func := "framekeep/framelaw2.PurgeSame", spec := "purgeSame", unfollowed := true, recurses := true, named := ["framekeep/code.forms"], apart := false, laid := [("framekeep/code.forms", laid_framekeep_code_forms)], narrowed := true }
def PurgeSameUptoSaid : Prop := purgeSameUptoRow.holds Tryd.pinned (OpenSpec.upto purgeSameSpec)

/-- 'framelaw2.PurgeTells', WHERE WHAT IT READS IS OF BULK AT MOST 1048576: true; the input reads as it did. -/
def purgeTellsUptoRow : OpenClaim := { program := "ytongkiccglaniaadoor", sum := "2f419254c47bcd7b05b0ddcf170428eba3432d6c29ba67a6801fb7a2f62a38ac", func := "framekeep/framelaw2.PurgeTells", spec := "purgeTells", inPlace := ["internal/reflectlite.ValueOf", "(internal/reflectlite.Value).Type", "(internal/reflectlite.Value).IsNil", "internal/reflectlite.TypeOf", "(internal/reflectlite.Value).Elem", "(internal/reflectlite.Value).Set"], unfollowed := true, recurses := true, named := ["framekeep/code.forms", "errors.errorType"], apart := false, laid := [("errors.errorType", laid_errors_errorType), ("framekeep/code.forms", laid_framekeep_code_forms)], narrowed := true }
def PurgeTellsUptoSaid : Prop := purgeTellsUptoRow.holds Tryd.pinned (OpenSpec.upto purgeTellsSpec)

/-- 'frametop.TopApart', WHERE WHAT IT READS IS OF BULK AT MOST 1048576: true; the input reads as it did. -/
def topApartUptoRow : OpenClaim := { program := "ytongkiccglaniaadoor", sum := "2f419254c47bcd7b05b0ddcf170428eba3432d6c29ba67a6801fb7a2f62a38ac", func := "framekeep/frametop.TopApart", spec := "topApart", unfollowed := true, recurses := true, named := ["framekeep/code.forms"], apart := false, laid := [("framekeep/code.forms", laid_framekeep_code_forms)], narrowed := true }
def TopApartUptoSaid : Prop := topApartUptoRow.holds Tryd.pinned (OpenSpec.upto topApartSpec)

/-- 'framelaw2.CarePlays', WHERE WHAT IT READS IS OF BULK AT MOST 1048576: true; the input reads as it did. -/
def carePlaysUptoRow : OpenClaim := { program := "ytongkiccglaniaadoor", sum := "2f419254c47bcd7b05b0ddcf170428eba3432d6c29ba67a6801fb7a2f62a38ac", func := "framekeep/framelaw2.CarePlays", spec := "carePlays", inPlace := ["internal/reflectlite.ValueOf", "(internal/reflectlite.Value).Type", "(internal/reflectlite.Value).IsNil", "internal/reflectlite.TypeOf", "(internal/reflectlite.Value).Elem", "(internal/reflectlite.Value).Set"], unfollowed := true, recurses := true, named := ["framekeep/code.forms", "errors.errorType"], apart := false, laid := [("errors.errorType", laid_errors_errorType), ("framekeep/code.forms", laid_framekeep_code_forms)], narrowed := true }
def CarePlaysUptoSaid : Prop := carePlaysUptoRow.holds Tryd.pinned (OpenSpec.upto carePlaysSpec)

/-- 'framelaw4.TraceTurns', WHERE WHAT IT READS IS OF BULK AT MOST 1048576: true; the input reads as it did. -/
def traceTurnsUptoRow : OpenClaim := { program := "ytongkiccglaniaadoor", sum := "2f419254c47bcd7b05b0ddcf170428eba3432d6c29ba67a6801fb7a2f62a38ac", func := "framekeep/framelaw4.TraceTurns", spec := "traceTurns", inPlace := ["internal/reflectlite.ValueOf", "(internal/reflectlite.Value).Type", "(internal/reflectlite.Value).IsNil", "internal/reflectlite.TypeOf", "(internal/reflectlite.Value).Elem", "(internal/reflectlite.Value).Set"], unfollowed := true, recurses := true, named := ["errors.errorType", "framekeep/code.forms"], apart := false, laid := [("errors.errorType", laid_errors_errorType), ("framekeep/code.forms", laid_framekeep_code_forms)], narrowed := true }
def TraceTurnsUptoSaid : Prop := traceTurnsUptoRow.holds Tryd.pinned (OpenSpec.upto traceTurnsSpec)

end Rows
end Go.Proofs.YtongkiccglaniaaDoor
