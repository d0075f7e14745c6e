/-
  DERIVED. GIVEN WITH THE SEED: THE CARDS: each row of YtnighanlonkjbaaDoorRows.lean that lists a variable, with what it lists TIED to the program's text (the seventh form; the later family's looks); each row that meets fmt, with fmt's text TOLD by the authors' own Lean function (tested against real Go, not proved from fmt's source: count such statements apart). THE CARD IS WHAT COUNTS. Prove the row's statement (the work); the ties are given (YtnighanlonkjbaaDoorTie.lean); close each card by the builder's one call (the guide's Derived/Test/ToyasCard.lean, 'card_holds'). Laid BY PROGRAM, IN A SANDBOX (cutbox-door.mjs). By AI agents, Wed Nov 11 2026. No macro, syntax, notation, axiom, sorry.
-/
import Derived.Test.YtnighanlonkjbaaDoorRows
import GoSem.ClaimSeven
namespace Go.Proofs.YtnighanlonkjbaaDoor
namespace Rows

/-- THE TIED CARD OF 'framelaw1.RoomStays'. -/
def roomStaysCard : Claim7 := { stood := { row := roomStaysRow, standIns := [], harness := (true, "9366bb30d85044218a17823887cf0b5979e3c3b7de5b86e3b95ba372f56f2164"), looks := true }, kinds := [], alts := [], laidByText := true, laidKinds := [.widerDeep], laidTests := true, laidLooks := .later }
def RoomStaysCardSaid : Prop := Claim7.holds Tryd.pinned (.plain (OpenSpec.ofChange roomStaysSpec)) roomStaysCard

/-- THE TIED CARD OF 'framelaw4.RoomCounts'. -/
def roomCountsCard : Claim7 := { stood := { row := roomCountsRow, standIns := [], harness := (true, "9366bb30d85044218a17823887cf0b5979e3c3b7de5b86e3b95ba372f56f2164"), looks := true }, kinds := [], alts := [], laidByText := true, laidKinds := [.widerDeep], laidTests := true, laidLooks := .later }
def RoomCountsCardSaid : Prop := Claim7.holds Tryd.pinned (.plain (OpenSpec.ofChange roomCountsSpec)) roomCountsCard

/-- THE TIED CARD OF 'framelaw1.RoomTells'. -/
def roomTellsCard : Claim7 := { stood := { row := roomTellsRow, standIns := [], harness := (true, "9366bb30d85044218a17823887cf0b5979e3c3b7de5b86e3b95ba372f56f2164"), looks := true }, kinds := [], alts := [], laidByText := true, laidKinds := [.handle, .widerDeep], laidTests := true, laidLooks := .later }
def RoomTellsCardSaid : Prop := Claim7.holds Tryd.pinned (.plain (OpenSpec.ofChange roomTellsSpec)) roomTellsCard

/-- THE TIED CARD OF 'framelaw1.WirePlays'. -/
def wirePlaysCard : Claim7 := { stood := { row := wirePlaysRow, standIns := [], harness := (true, "9366bb30d85044218a17823887cf0b5979e3c3b7de5b86e3b95ba372f56f2164"), looks := true }, kinds := [], alts := [], laidByText := true, laidKinds := [.handle], laidTests := true, laidLooks := .later }
def WirePlaysCardSaid : Prop := Claim7.holds Tryd.pinned (.plain (OpenSpec.ofChange wirePlaysSpec)) wirePlaysCard

/-- THE TIED CARD OF 'framelaw4.PlanPorts'. -/
def planPortsCard : Claim7 := { stood := { row := planPortsRow, standIns := [], harness := (true, "9366bb30d85044218a17823887cf0b5979e3c3b7de5b86e3b95ba372f56f2164"), looks := true }, kinds := [], alts := [], laidByText := true, laidKinds := [.handle, .widerDeep], laidTests := true, laidLooks := .later }
def PlanPortsCardSaid : Prop := Claim7.holds Tryd.pinned (.plain (OpenSpec.ofChange planPortsSpec)) planPortsCard

/-- THE TIED CARD OF 'framelaw4.KernelCounts'. -/
def kernelCountsCard : Claim7 := { stood := { row := kernelCountsRow, standIns := [], harness := (true, "9366bb30d85044218a17823887cf0b5979e3c3b7de5b86e3b95ba372f56f2164"), looks := true }, kinds := [], alts := [], laidByText := true, laidKinds := [.widerDeep], laidTests := true, laidLooks := .later }
def KernelCountsCardSaid : Prop := Claim7.holds Tryd.pinned (.plain (OpenSpec.ofChange kernelCountsSpec)) kernelCountsCard

/-- THE TIED CARD OF 'framelaw1.KernelTurns'. -/
def kernelTurnsCard : Claim7 := { stood := { row := kernelTurnsRow, standIns := [], harness := (true, "9366bb30d85044218a17823887cf0b5979e3c3b7de5b86e3b95ba372f56f2164"), looks := true }, kinds := [], alts := [], laidByText := true, laidKinds := [.widerDeep], laidTests := true, laidLooks := .later }
def KernelTurnsCardSaid : Prop := Claim7.holds Tryd.pinned (.plain (OpenSpec.ofChange kernelTurnsSpec)) kernelTurnsCard

/-- THE TIED CARD OF 'framelaw1.KernelPlays'. -/
def kernelPlaysCard : Claim7 := { stood := { row := kernelPlaysRow, standIns := [], harness := (true, "9366bb30d85044218a17823887cf0b5979e3c3b7de5b86e3b95ba372f56f2164"), looks := true }, kinds := [], alts := [], laidByText := true, laidKinds := [.handle, .widerDeep], laidTests := true, laidLooks := .later }
def KernelPlaysCardSaid : Prop := Claim7.holds Tryd.pinned (.plain (OpenSpec.ofChange kernelPlaysSpec)) kernelPlaysCard

/-- THE TIED CARD OF 'framelaw4.SightLong'. -/
def sightLongCard : Claim7 := { stood := { row := sightLongRow, standIns := [], harness := (true, "9366bb30d85044218a17823887cf0b5979e3c3b7de5b86e3b95ba372f56f2164"), looks := true }, kinds := [], alts := [], laidByText := true, laidKinds := [.widerDeep], laidTests := true, laidLooks := .later }
def SightLongCardSaid : Prop := Claim7.holds Tryd.pinned (.plain (OpenSpec.ofChange sightLongSpec)) sightLongCard

/-- THE TIED CARD OF 'framelaw1.SightSame'. -/
def sightSameCard : Claim7 := { stood := { row := sightSameRow, standIns := [], harness := (true, "9366bb30d85044218a17823887cf0b5979e3c3b7de5b86e3b95ba372f56f2164"), looks := true }, kinds := [], alts := [], laidByText := true, laidKinds := [.widerDeep], laidTests := true, laidLooks := .later }
def SightSameCardSaid : Prop := Claim7.holds Tryd.pinned (.plain (OpenSpec.ofChange sightSameSpec)) sightSameCard

/-- THE TIED CARD OF 'framelaw1.SightTells'. -/
def sightTellsCard : Claim7 := { stood := { row := sightTellsRow, standIns := [], harness := (true, "9366bb30d85044218a17823887cf0b5979e3c3b7de5b86e3b95ba372f56f2164"), looks := true }, kinds := [], alts := [], laidByText := true, laidKinds := [.handle, .widerDeep], laidTests := true, laidLooks := .later }
def SightTellsCardSaid : Prop := Claim7.holds Tryd.pinned (.plain (OpenSpec.ofChange sightTellsSpec)) sightTellsCard

/-- THE TIED CARD OF 'framelaw4.PurgeTwice'. -/
def purgeTwiceCard : Claim7 := { stood := { row := purgeTwiceRow, standIns := [], harness := (true, "9366bb30d85044218a17823887cf0b5979e3c3b7de5b86e3b95ba372f56f2164"), looks := true }, kinds := [], alts := [], laidByText := true, laidKinds := [.widerDeep], laidTests := true, laidLooks := .later }
def PurgeTwiceCardSaid : Prop := Claim7.holds Tryd.pinned (.plain (OpenSpec.ofChange purgeTwiceSpec)) purgeTwiceCard

/-- THE SECOND FORM's CARD OF 'framelaw1.RoomStays'. -/
def roomStaysUptoCard : Claim7 := { stood := { row := roomStaysUptoRow, standIns := [], harness := (true, "9366bb30d85044218a17823887cf0b5979e3c3b7de5b86e3b95ba372f56f2164"), looks := true }, kinds := [], alts := [], laidByText := true, laidKinds := [.widerDeep], laidTests := true, laidLooks := .later }
def RoomStaysUptoCardSaid : Prop := Claim7.holds Tryd.pinned (.plain (OpenSpec.upto roomStaysSpec)) roomStaysUptoCard

/-- THE SECOND FORM's CARD OF 'framelaw4.RoomCounts'. -/
def roomCountsUptoCard : Claim7 := { stood := { row := roomCountsUptoRow, standIns := [], harness := (true, "9366bb30d85044218a17823887cf0b5979e3c3b7de5b86e3b95ba372f56f2164"), looks := true }, kinds := [], alts := [], laidByText := true, laidKinds := [.widerDeep], laidTests := true, laidLooks := .later }
def RoomCountsUptoCardSaid : Prop := Claim7.holds Tryd.pinned (.plain (OpenSpec.upto roomCountsSpec)) roomCountsUptoCard

/-- THE SECOND FORM's CARD OF 'framelaw1.RoomTells'. -/
def roomTellsUptoCard : Claim7 := { stood := { row := roomTellsUptoRow, standIns := [], harness := (true, "9366bb30d85044218a17823887cf0b5979e3c3b7de5b86e3b95ba372f56f2164"), looks := true }, kinds := [], alts := [], laidByText := true, laidKinds := [.handle, .widerDeep], laidTests := true, laidLooks := .later }
def RoomTellsUptoCardSaid : Prop := Claim7.holds Tryd.pinned (.plain (OpenSpec.upto roomTellsSpec)) roomTellsUptoCard

/-- THE SECOND FORM's CARD OF 'framelaw1.WirePlays'. -/
def wirePlaysUptoCard : Claim7 := { stood := { row := wirePlaysUptoRow, standIns := [], harness := (true, "9366bb30d85044218a17823887cf0b5979e3c3b7de5b86e3b95ba372f56f2164"), looks := true }, kinds := [], alts := [], laidByText := true, laidKinds := [.handle], laidTests := true, laidLooks := .later }
def WirePlaysUptoCardSaid : Prop := Claim7.holds Tryd.pinned (.plain (OpenSpec.upto wirePlaysSpec)) wirePlaysUptoCard

/-- THE SECOND FORM's CARD OF 'framelaw4.PlanPorts'. -/
def planPortsUptoCard : Claim7 := { stood := { row := planPortsUptoRow, standIns := [], harness := (true, "9366bb30d85044218a17823887cf0b5979e3c3b7de5b86e3b95ba372f56f2164"), looks := true }, kinds := [], alts := [], laidByText := true, laidKinds := [.handle, .widerDeep], laidTests := true, laidLooks := .later }
def PlanPortsUptoCardSaid : Prop := Claim7.holds Tryd.pinned (.plain (OpenSpec.upto planPortsSpec)) planPortsUptoCard

/-- THE SECOND FORM's CARD OF 'framelaw4.KernelCounts'. -/
def kernelCountsUptoCard : Claim7 := { stood := { row := kernelCountsUptoRow, standIns := [], harness := (true, "9366bb30d85044218a17823887cf0b5979e3c3b7de5b86e3b95ba372f56f2164"), looks := true }, kinds := [], alts := [], laidByText := true, laidKinds := [.widerDeep], laidTests := true, laidLooks := .later }
def KernelCountsUptoCardSaid : Prop := Claim7.holds Tryd.pinned (.plain (OpenSpec.upto kernelCountsSpec)) kernelCountsUptoCard

/-- THE SECOND FORM's CARD OF 'framelaw1.KernelTurns'. -/
def kernelTurnsUptoCard : Claim7 := { stood := { row := kernelTurnsUptoRow, standIns := [], harness := (true, "9366bb30d85044218a17823887cf0b5979e3c3b7de5b86e3b95ba372f56f2164"), looks := true }, kinds := [], alts := [], laidByText := true, laidKinds := [.widerDeep], laidTests := true, laidLooks := .later }
def KernelTurnsUptoCardSaid : Prop := Claim7.holds Tryd.pinned (.plain (OpenSpec.upto kernelTurnsSpec)) kernelTurnsUptoCard

/-- THE SECOND FORM's CARD OF 'framelaw1.KernelPlays'. -/
def kernelPlaysUptoCard : Claim7 := { stood := { row := kernelPlaysUptoRow, standIns := [], harness := (true, "9366bb30d85044218a17823887cf0b5979e3c3b7de5b86e3b95ba372f56f2164"), looks := true }, kinds := [], alts := [], laidByText := true, laidKinds := [.handle, .widerDeep], laidTests := true, laidLooks := .later }
def KernelPlaysUptoCardSaid : Prop := Claim7.holds Tryd.pinned (.plain (OpenSpec.upto kernelPlaysSpec)) kernelPlaysUptoCard

/-- THE SECOND FORM's CARD OF 'framelaw4.SightLong'. -/
def sightLongUptoCard : Claim7 := { stood := { row := sightLongUptoRow, standIns := [], harness := (true, "9366bb30d85044218a17823887cf0b5979e3c3b7de5b86e3b95ba372f56f2164"), looks := true }, kinds := [], alts := [], laidByText := true, laidKinds := [.widerDeep], laidTests := true, laidLooks := .later }
def SightLongUptoCardSaid : Prop := Claim7.holds Tryd.pinned (.plain (OpenSpec.upto sightLongSpec)) sightLongUptoCard

/-- THE SECOND FORM's CARD OF 'framelaw1.SightSame'. -/
def sightSameUptoCard : Claim7 := { stood := { row := sightSameUptoRow, standIns := [], harness := (true, "9366bb30d85044218a17823887cf0b5979e3c3b7de5b86e3b95ba372f56f2164"), looks := true }, kinds := [], alts := [], laidByText := true, laidKinds := [.widerDeep], laidTests := true, laidLooks := .later }
def SightSameUptoCardSaid : Prop := Claim7.holds Tryd.pinned (.plain (OpenSpec.upto sightSameSpec)) sightSameUptoCard

/-- THE SECOND FORM's CARD OF 'framelaw1.SightTells'. -/
def sightTellsUptoCard : Claim7 := { stood := { row := sightTellsUptoRow, standIns := [], harness := (true, "9366bb30d85044218a17823887cf0b5979e3c3b7de5b86e3b95ba372f56f2164"), looks := true }, kinds := [], alts := [], laidByText := true, laidKinds := [.handle, .widerDeep], laidTests := true, laidLooks := .later }
def SightTellsUptoCardSaid : Prop := Claim7.holds Tryd.pinned (.plain (OpenSpec.upto sightTellsSpec)) sightTellsUptoCard

/-- THE SECOND FORM's CARD OF 'framelaw4.PurgeTwice'. -/
def purgeTwiceUptoCard : Claim7 := { stood := { row := purgeTwiceUptoRow, standIns := [], harness := (true, "9366bb30d85044218a17823887cf0b5979e3c3b7de5b86e3b95ba372f56f2164"), looks := true }, kinds := [], alts := [], laidByText := true, laidKinds := [.widerDeep], laidTests := true, laidLooks := .later }
def PurgeTwiceUptoCardSaid : Prop := Claim7.holds Tryd.pinned (.plain (OpenSpec.upto purgeTwiceSpec)) purgeTwiceUptoCard
end Rows
end Go.Proofs.YtnighanlonkjbaaDoor
