/-
  DERIVED. GIVEN WITH THE SEED: THE CARDS: each row of YthdmgighblhmhaaGreatDoorRows.lean that lists a variable, with what it lists TIED to the program's text (the seventh form; the later family's looks); each row that meets fmt, with fmt's text TOLD by the authors' own Lean function (tested against real Go, not proved from fmt's source: count such statements apart). THE CARD IS WHAT COUNTS. Prove the row's statement (the work); the ties are given (YthdmgighblhmhaaGreatDoorTie.lean); close each card by the builder's one call (the guide's Derived/Test/ToyasCard.lean, 'card_holds'). Laid BY PROGRAM, IN A SANDBOX (cutbox-door.mjs). By AI agents, Wed Nov 11 2026. No macro, syntax, notation, axiom, sorry.
-/
import Derived.Test.YthdmgighblhmhaaGreatDoorRows
import GoSem.ClaimSeven
namespace Go.Proofs.YthdmgighblhmhaaGreatDoor
namespace Rows

/-- THE TIED CARD OF 'framelaw3.RunAnswers'. -/
def runAnswersCard : Claim7 := { stood := { row := runAnswersRow, standIns := [], harness := (true, "d1f4a1fda4323734436b000b5f31e1d4bd0514a0e054369995ae15dd6e001765"), looks := true }, kinds := [], alts := [], laidByText := true, laidKinds := [.data, .data, .data, .data, .handle, .sentinel, .sentinel, .widerDeep, .wider, .pinned], laidTests := true, laidLooks := .later }
def RunAnswersCardSaid : Prop := Claim7.holds Tryz.pinned (.plain (OpenSpec.ofChange runAnswersSpec)) runAnswersCard

/-- THE TIED CARD OF 'framelaw3.RunBegins'. -/
def runBeginsCard : Claim7 := { stood := { row := runBeginsRow, standIns := [], harness := (true, "d1f4a1fda4323734436b000b5f31e1d4bd0514a0e054369995ae15dd6e001765"), looks := true }, kinds := [], alts := [], laidByText := true, laidKinds := [.data, .data, .data, .data, .handle, .sentinel, .sentinel, .widerDeep, .wider, .pinned], laidTests := true, laidLooks := .later }
def RunBeginsCardSaid : Prop := Claim7.holds Tryz.pinned (.plain (OpenSpec.ofChange runBeginsSpec)) runBeginsCard

/-- THE TIED CARD OF 'framelaw3.RunTicks'. -/
def runTicksCard : Claim7 := { stood := { row := runTicksRow, standIns := [], harness := (true, "d1f4a1fda4323734436b000b5f31e1d4bd0514a0e054369995ae15dd6e001765"), looks := true }, kinds := [], alts := [], laidByText := true, laidKinds := [.data, .data, .data, .data, .handle, .sentinel, .sentinel, .widerDeep, .wider, .pinned], laidTests := true, laidLooks := .later }
def RunTicksCardSaid : Prop := Claim7.holds Tryz.pinned (.plain (OpenSpec.ofChange runTicksSpec)) runTicksCard

/-- THE SECOND FORM's CARD OF 'framelaw3.RunAnswers'. -/
def runAnswersUptoCard : Claim7 := { stood := { row := runAnswersUptoRow, standIns := [], harness := (true, "d1f4a1fda4323734436b000b5f31e1d4bd0514a0e054369995ae15dd6e001765"), looks := true }, kinds := [], alts := [], laidByText := true, laidKinds := [.data, .data, .data, .data, .handle, .sentinel, .sentinel, .widerDeep, .wider, .pinned], laidTests := true, laidLooks := .later }
def RunAnswersUptoCardSaid : Prop := Claim7.holds Tryz.pinned (.plain (OpenSpec.upto runAnswersSpec)) runAnswersUptoCard

/-- THE SECOND FORM's CARD OF 'framelaw3.RunBegins'. -/
def runBeginsUptoCard : Claim7 := { stood := { row := runBeginsUptoRow, standIns := [], harness := (true, "d1f4a1fda4323734436b000b5f31e1d4bd0514a0e054369995ae15dd6e001765"), looks := true }, kinds := [], alts := [], laidByText := true, laidKinds := [.data, .data, .data, .data, .handle, .sentinel, .sentinel, .widerDeep, .wider, .pinned], laidTests := true, laidLooks := .later }
def RunBeginsUptoCardSaid : Prop := Claim7.holds Tryz.pinned (.plain (OpenSpec.upto runBeginsSpec)) runBeginsUptoCard

/-- THE SECOND FORM's CARD OF 'framelaw3.RunTicks'. -/
def runTicksUptoCard : Claim7 := { stood := { row := runTicksUptoRow, standIns := [], harness := (true, "d1f4a1fda4323734436b000b5f31e1d4bd0514a0e054369995ae15dd6e001765"), looks := true }, kinds := [], alts := [], laidByText := true, laidKinds := [.data, .data, .data, .data, .handle, .sentinel, .sentinel, .widerDeep, .wider, .pinned], laidTests := true, laidLooks := .later }
def RunTicksUptoCardSaid : Prop := Claim7.holds Tryz.pinned (.plain (OpenSpec.upto runTicksSpec)) runTicksUptoCard
end Rows
end Go.Proofs.YthdmgighblhmhaaGreatDoor
