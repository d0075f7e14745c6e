/-
  DERIVED. GIVEN WITH THE SEED: THE CARDS: each row of YtnmbomhlonifnaaDoorRows.lean that lists a variable, with what it lists TIED to the program's text (the seventh form; the later family's looks); each row that meets fmt, with fmt's text TOLD by the authors' own Lean function (tested against real Go, not proved from fmt's source: count such statements apart). THE CARD IS WHAT COUNTS. Prove the row's statement (the work); the ties are given (YtnmbomhlonifnaaDoorTie.lean); close each card by the builder's one call (the guide's Derived/Test/ToyasCard.lean, 'card_holds'). Laid BY PROGRAM, IN A SANDBOX (cutbox-door.mjs). By AI agents, Wed Nov 11 2026. No macro, syntax, notation, axiom, sorry.
-/
import Derived.Test.YtnmbomhlonifnaaDoorRows
import GoSem.ClaimSeven
namespace Go.Proofs.YtnmbomhlonifnaaDoor
namespace Rows

/-- THE TIED CARD OF 'framelaw4.CareOn'. -/
def careOnCard : Claim7 := { stood := { row := careOnRow, standIns := [], harness := (true, "76705c72c8f28629879e71baa998e9c166f214a05458d8b917a58bdb8b5abea2"), looks := true }, kinds := [], alts := [], laidByText := true, laidKinds := [.widerDeep], laidTests := true, laidLooks := .later }
def CareOnCardSaid : Prop := Claim7.holds Tryd.pinned (.plain (OpenSpec.ofChange careOnSpec)) careOnCard

/-- THE TIED CARD OF 'framelaw2.CareStays'. -/
def careStaysCard : Claim7 := { stood := { row := careStaysRow, standIns := [], harness := (true, "76705c72c8f28629879e71baa998e9c166f214a05458d8b917a58bdb8b5abea2"), looks := true }, kinds := [], alts := [], laidByText := true, laidKinds := [.widerDeep], laidTests := true, laidLooks := .later }
def CareStaysCardSaid : Prop := Claim7.holds Tryd.pinned (.plain (OpenSpec.ofChange careStaysSpec)) careStaysCard

/-- THE TIED CARD OF 'framelaw2.CarePlays'. -/
def carePlaysCard : Claim7 := { stood := { row := carePlaysRow, standIns := [], harness := (true, "76705c72c8f28629879e71baa998e9c166f214a05458d8b917a58bdb8b5abea2"), looks := true }, kinds := [], alts := [], laidByText := true, laidKinds := [.handle, .widerDeep], laidTests := true, laidLooks := .later }
def CarePlaysCardSaid : Prop := Claim7.holds Tryd.pinned (.plain (OpenSpec.ofChange carePlaysSpec)) carePlaysCard

/-- THE TIED CARD OF 'framelaw4.SwayNone'. -/
def swayNoneCard : Claim7 := { stood := { row := swayNoneRow, standIns := [], harness := (true, "76705c72c8f28629879e71baa998e9c166f214a05458d8b917a58bdb8b5abea2"), looks := true }, kinds := [], alts := [], laidByText := true, laidKinds := [.widerDeep], laidTests := true, laidLooks := .later }
def SwayNoneCardSaid : Prop := Claim7.holds Tryd.pinned (.plain (OpenSpec.ofChange swayNoneSpec)) swayNoneCard

/-- THE TIED CARD OF 'framelaw3.SwayFlows'. -/
def swayFlowsCard : Claim7 := { stood := { row := swayFlowsRow, standIns := [], harness := (true, "76705c72c8f28629879e71baa998e9c166f214a05458d8b917a58bdb8b5abea2"), looks := true }, kinds := [], alts := [], laidByText := true, laidKinds := [.widerDeep], laidTests := true, laidLooks := .later }
def SwayFlowsCardSaid : Prop := Claim7.holds Tryd.pinned (.plain (OpenSpec.ofChange swayFlowsSpec)) swayFlowsCard

/-- THE TIED CARD OF 'framelaw3.SwayTells'. -/
def swayTellsCard : Claim7 := { stood := { row := swayTellsRow, standIns := [], harness := (true, "76705c72c8f28629879e71baa998e9c166f214a05458d8b917a58bdb8b5abea2"), looks := true }, kinds := [], alts := [], laidByText := true, laidKinds := [.handle, .widerDeep], laidTests := true, laidLooks := .later }
def SwayTellsCardSaid : Prop := Claim7.holds Tryd.pinned (.plain (OpenSpec.ofChange swayTellsSpec)) swayTellsCard

/-- THE TIED CARD OF 'frametop.TopLevels'. -/
def topLevelsCard : Claim7 := { stood := { row := topLevelsRow, standIns := [], harness := (true, "76705c72c8f28629879e71baa998e9c166f214a05458d8b917a58bdb8b5abea2"), looks := true }, kinds := [], alts := [], laidByText := true, laidKinds := [.widerDeep], laidTests := true, laidLooks := .later }
def TopLevelsCardSaid : Prop := Claim7.holds Tryd.pinned (.plain (OpenSpec.ofChange topLevelsSpec)) topLevelsCard

/-- THE TIED CARD OF 'framelaw4.TraceTurns'. -/
def traceTurnsCard : Claim7 := { stood := { row := traceTurnsRow, standIns := [], harness := (true, "76705c72c8f28629879e71baa998e9c166f214a05458d8b917a58bdb8b5abea2"), looks := true }, kinds := [], alts := [], laidByText := true, laidKinds := [.handle, .widerDeep], laidTests := true, laidLooks := .later }
def TraceTurnsCardSaid : Prop := Claim7.holds Tryd.pinned (.plain (OpenSpec.ofChange traceTurnsSpec)) traceTurnsCard

/-- THE TIED CARD OF 'framelaw1.SightTells'. -/
def sightTellsCard : Claim7 := { stood := { row := sightTellsRow, standIns := [], harness := (true, "76705c72c8f28629879e71baa998e9c166f214a05458d8b917a58bdb8b5abea2"), looks := true }, kinds := [], alts := [], laidByText := true, laidKinds := [.handle, .widerDeep], laidTests := true, laidLooks := .later }
def SightTellsCardSaid : Prop := Claim7.holds Tryd.pinned (.plain (OpenSpec.ofChange sightTellsSpec)) sightTellsCard

/-- THE SECOND FORM's CARD OF 'framelaw4.CareOn'. -/
def careOnUptoCard : Claim7 := { stood := { row := careOnUptoRow, standIns := [], harness := (true, "76705c72c8f28629879e71baa998e9c166f214a05458d8b917a58bdb8b5abea2"), looks := true }, kinds := [], alts := [], laidByText := true, laidKinds := [.widerDeep], laidTests := true, laidLooks := .later }
def CareOnUptoCardSaid : Prop := Claim7.holds Tryd.pinned (.plain (OpenSpec.upto careOnSpec)) careOnUptoCard

/-- THE SECOND FORM's CARD OF 'framelaw2.CareStays'. -/
def careStaysUptoCard : Claim7 := { stood := { row := careStaysUptoRow, standIns := [], harness := (true, "76705c72c8f28629879e71baa998e9c166f214a05458d8b917a58bdb8b5abea2"), looks := true }, kinds := [], alts := [], laidByText := true, laidKinds := [.widerDeep], laidTests := true, laidLooks := .later }
def CareStaysUptoCardSaid : Prop := Claim7.holds Tryd.pinned (.plain (OpenSpec.upto careStaysSpec)) careStaysUptoCard

/-- THE SECOND FORM's CARD OF 'framelaw2.CarePlays'. -/
def carePlaysUptoCard : Claim7 := { stood := { row := carePlaysUptoRow, standIns := [], harness := (true, "76705c72c8f28629879e71baa998e9c166f214a05458d8b917a58bdb8b5abea2"), looks := true }, kinds := [], alts := [], laidByText := true, laidKinds := [.handle, .widerDeep], laidTests := true, laidLooks := .later }
def CarePlaysUptoCardSaid : Prop := Claim7.holds Tryd.pinned (.plain (OpenSpec.upto carePlaysSpec)) carePlaysUptoCard

/-- THE SECOND FORM's CARD OF 'framelaw4.SwayNone'. -/
def swayNoneUptoCard : Claim7 := { stood := { row := swayNoneUptoRow, standIns := [], harness := (true, "76705c72c8f28629879e71baa998e9c166f214a05458d8b917a58bdb8b5abea2"), looks := true }, kinds := [], alts := [], laidByText := true, laidKinds := [.widerDeep], laidTests := true, laidLooks := .later }
def SwayNoneUptoCardSaid : Prop := Claim7.holds Tryd.pinned (.plain (OpenSpec.upto swayNoneSpec)) swayNoneUptoCard

/-- THE SECOND FORM's CARD OF 'framelaw3.SwayFlows'. -/
def swayFlowsUptoCard : Claim7 := { stood := { row := swayFlowsUptoRow, standIns := [], harness := (true, "76705c72c8f28629879e71baa998e9c166f214a05458d8b917a58bdb8b5abea2"), looks := true }, kinds := [], alts := [], laidByText := true, laidKinds := [.widerDeep], laidTests := true, laidLooks := .later }
def SwayFlowsUptoCardSaid : Prop := Claim7.holds Tryd.pinned (.plain (OpenSpec.upto swayFlowsSpec)) swayFlowsUptoCard

/-- THE SECOND FORM's CARD OF 'framelaw3.SwayTells'. -/
def swayTellsUptoCard : Claim7 := { stood := { row := swayTellsUptoRow, standIns := [], harness := (true, "76705c72c8f28629879e71baa998e9c166f214a05458d8b917a58bdb8b5abea2"), looks := true }, kinds := [], alts := [], laidByText := true, laidKinds := [.handle, .widerDeep], laidTests := true, laidLooks := .later }
def SwayTellsUptoCardSaid : Prop := Claim7.holds Tryd.pinned (.plain (OpenSpec.upto swayTellsSpec)) swayTellsUptoCard

/-- THE SECOND FORM's CARD OF 'frametop.TopLevels'. -/
def topLevelsUptoCard : Claim7 := { stood := { row := topLevelsUptoRow, standIns := [], harness := (true, "76705c72c8f28629879e71baa998e9c166f214a05458d8b917a58bdb8b5abea2"), looks := true }, kinds := [], alts := [], laidByText := true, laidKinds := [.widerDeep], laidTests := true, laidLooks := .later }
def TopLevelsUptoCardSaid : Prop := Claim7.holds Tryd.pinned (.plain (OpenSpec.upto topLevelsSpec)) topLevelsUptoCard

/-- THE SECOND FORM's CARD OF 'framelaw4.TraceTurns'. -/
def traceTurnsUptoCard : Claim7 := { stood := { row := traceTurnsUptoRow, standIns := [], harness := (true, "76705c72c8f28629879e71baa998e9c166f214a05458d8b917a58bdb8b5abea2"), looks := true }, kinds := [], alts := [], laidByText := true, laidKinds := [.handle, .widerDeep], laidTests := true, laidLooks := .later }
def TraceTurnsUptoCardSaid : Prop := Claim7.holds Tryd.pinned (.plain (OpenSpec.upto traceTurnsSpec)) traceTurnsUptoCard

/-- THE SECOND FORM's CARD OF 'framelaw1.SightTells'. -/
def sightTellsUptoCard : Claim7 := { stood := { row := sightTellsUptoRow, standIns := [], harness := (true, "76705c72c8f28629879e71baa998e9c166f214a05458d8b917a58bdb8b5abea2"), looks := true }, kinds := [], alts := [], laidByText := true, laidKinds := [.handle, .widerDeep], laidTests := true, laidLooks := .later }
def SightTellsUptoCardSaid : Prop := Claim7.holds Tryd.pinned (.plain (OpenSpec.upto sightTellsSpec)) sightTellsUptoCard
end Rows
end Go.Proofs.YtnmbomhlonifnaaDoor
