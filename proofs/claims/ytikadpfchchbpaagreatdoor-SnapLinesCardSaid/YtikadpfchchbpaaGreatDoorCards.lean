/-
  DERIVED. GIVEN WITH THE SEED: THE CARDS: each row of YtikadpfchchbpaaGreatDoorRows.lean that lists a variable, with what it lists TIED to the program's text (the seventh form; the later family's looks); each row that meets fmt, with fmt's text TOLD by the authors' own Lean function (tested against real Go, not proved from fmt's source: count such statements apart). THE CARD IS WHAT COUNTS. Prove the row's statement (the work); the ties are given (YtikadpfchchbpaaGreatDoorTie.lean); close each card by the builder's one call (the guide's Derived/Test/ToyasCard.lean, 'card_holds'). Laid BY PROGRAM, IN A SANDBOX (cutbox-door.mjs). By AI agents, Wed Nov 11 2026. No macro, syntax, notation, axiom, sorry.
-/
import Derived.Test.YtikadpfchchbpaaGreatDoorRows
import GoSem.ClaimSeven
namespace Go.Proofs.YtikadpfchchbpaaGreatDoor
namespace Rows

/-- THE TIED CARD OF 'framelaw4.SnapLines'. -/
def snapLinesCard : Claim7 := { stood := { row := snapLinesRow, standIns := [], harness := (true, "c5c83e698939266f5fb60b2f826e1496effeb3073983740273a43e7b924e473f"), looks := true }, kinds := [], alts := [], laidByText := true, laidKinds := [.data, .data, .data, .data, .handle, .sentinel, .sentinel, .widerDeep, .pinned], laidTests := true, laidLooks := .later }
def SnapLinesCardSaid : Prop := Claim7.holds Tryz.pinned (.plain (OpenSpec.ofChange snapLinesSpec)) snapLinesCard

/-- THE TIED CARD OF 'framelaw4.LogRefuses'. -/
def logRefusesCard : Claim7 := { stood := { row := logRefusesRow, standIns := [], harness := (true, "c5c83e698939266f5fb60b2f826e1496effeb3073983740273a43e7b924e473f"), looks := true }, kinds := [], alts := [], laidByText := true, laidKinds := [.data, .data, .data, .handle, .widerDeep], laidTests := true, laidLooks := .later }
def LogRefusesCardSaid : Prop := Claim7.holds Tryz.pinned (.plain (OpenSpec.ofChange logRefusesSpec)) logRefusesCard

/-- THE SECOND FORM's CARD OF 'framelaw4.SnapLines'. -/
def snapLinesUptoCard : Claim7 := { stood := { row := snapLinesUptoRow, standIns := [], harness := (true, "c5c83e698939266f5fb60b2f826e1496effeb3073983740273a43e7b924e473f"), looks := true }, kinds := [], alts := [], laidByText := true, laidKinds := [.data, .data, .data, .data, .handle, .sentinel, .sentinel, .widerDeep, .pinned], laidTests := true, laidLooks := .later }
def SnapLinesUptoCardSaid : Prop := Claim7.holds Tryz.pinned (.plain (OpenSpec.upto snapLinesSpec)) snapLinesUptoCard

/-- THE SECOND FORM's CARD OF 'framelaw4.LogRefuses'. -/
def logRefusesUptoCard : Claim7 := { stood := { row := logRefusesUptoRow, standIns := [], harness := (true, "c5c83e698939266f5fb60b2f826e1496effeb3073983740273a43e7b924e473f"), looks := true }, kinds := [], alts := [], laidByText := true, laidKinds := [.data, .data, .data, .handle, .widerDeep], laidTests := true, laidLooks := .later }
def LogRefusesUptoCardSaid : Prop := Claim7.holds Tryz.pinned (.plain (OpenSpec.upto logRefusesSpec)) logRefusesUptoCard
end Rows
end Go.Proofs.YtikadpfchchbpaaGreatDoor
