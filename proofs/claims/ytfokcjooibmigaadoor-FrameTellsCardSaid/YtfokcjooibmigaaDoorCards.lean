/-
  DERIVED. GIVEN WITH THE SEED: THE CARDS: each row of YtfokcjooibmigaaDoorRows.lean that lists a variable, with what it lists TIED to the program's text (the seventh form; the later family's looks); each row that meets fmt, with fmt's text TOLD by the authors' own Lean function (tested against real Go, not proved from fmt's source: count such statements apart). THE CARD IS WHAT COUNTS. Prove the row's statement (the work); the ties are given (YtfokcjooibmigaaDoorTie.lean); close each card by the builder's one call (the guide's Derived/Test/ToyasCard.lean, 'card_holds'). Laid BY PROGRAM, IN A SANDBOX (cutbox-door.mjs). By AI agents, Wed Nov 11 2026. No macro, syntax, notation, axiom, sorry.
-/
import Derived.Test.YtfokcjooibmigaaDoorRows
import GoSem.ClaimSeven
namespace Go.Proofs.YtfokcjooibmigaaDoor
namespace Rows

/-- THE TIED CARD OF 'framelaw1.WirePlays'. -/
def wirePlaysCard : Claim7 := { stood := { row := wirePlaysRow, standIns := [], harness := (true, "c7986bf47220c5e3da4f68f22a12080b06f1d498d6772042a661d37361e29450"), looks := true }, kinds := [], alts := [], laidByText := true, laidKinds := [.handle], laidTests := true, laidLooks := .later }
def WirePlaysCardSaid : Prop := Claim7.holds Tryd.pinned (.plain (OpenSpec.ofChange wirePlaysSpec)) wirePlaysCard

/-- THE TIED CARD OF 'framelaw1.FlowTells'. -/
def flowTellsCard : Claim7 := { stood := { row := flowTellsRow, standIns := [], harness := (true, "c7986bf47220c5e3da4f68f22a12080b06f1d498d6772042a661d37361e29450"), looks := true }, kinds := [], alts := [], laidByText := true, laidKinds := [.handle], laidTests := true, laidLooks := .later }
def FlowTellsCardSaid : Prop := Claim7.holds Tryd.pinned (.plain (OpenSpec.ofChange flowTellsSpec)) flowTellsCard

/-- THE TIED CARD OF 'framelaw1.FrameTells'. -/
def frameTellsCard : Claim7 := { stood := { row := frameTellsRow, standIns := [], harness := (true, "c7986bf47220c5e3da4f68f22a12080b06f1d498d6772042a661d37361e29450"), looks := true }, kinds := [], alts := [], laidByText := true, laidKinds := [.handle], laidTests := true, laidLooks := .later }
def FrameTellsCardSaid : Prop := Claim7.holds Tryd.pinned (.plain (OpenSpec.ofChange frameTellsSpec)) frameTellsCard

/-- THE TIED CARD OF 'framelaw1.FrameAgain'. -/
def frameAgainCard : Claim7 := { stood := { row := frameAgainRow, standIns := [], harness := (true, "c7986bf47220c5e3da4f68f22a12080b06f1d498d6772042a661d37361e29450"), looks := true }, kinds := [], alts := [], laidByText := true, laidKinds := [.handle], laidTests := true, laidLooks := .later }
def FrameAgainCardSaid : Prop := Claim7.holds Tryd.pinned (.plain (OpenSpec.ofChange frameAgainSpec)) frameAgainCard

/-- THE TIED CARD OF 'framelaw4.LevelsNone'. -/
def levelsNoneCard : Claim7 := { stood := { row := levelsNoneRow, standIns := [], harness := (true, "c7986bf47220c5e3da4f68f22a12080b06f1d498d6772042a661d37361e29450"), looks := true }, kinds := [], alts := [], laidByText := true, laidKinds := [.handle], laidTests := true, laidLooks := .later }
def LevelsNoneCardSaid : Prop := Claim7.holds Tryd.pinned (.plain (OpenSpec.ofChange levelsNoneSpec)) levelsNoneCard

/-- THE TIED CARD OF 'framelaw2.LevelsTell'. -/
def levelsTellCard : Claim7 := { stood := { row := levelsTellRow, standIns := [], harness := (true, "c7986bf47220c5e3da4f68f22a12080b06f1d498d6772042a661d37361e29450"), looks := true }, kinds := [], alts := [], laidByText := true, laidKinds := [.handle], laidTests := true, laidLooks := .later }
def LevelsTellCardSaid : Prop := Claim7.holds Tryd.pinned (.plain (OpenSpec.ofChange levelsTellSpec)) levelsTellCard

/-- THE TIED CARD OF 'framelaw4.SupplyAll'. -/
def supplyAllCard : Claim7 := { stood := { row := supplyAllRow, standIns := [], harness := (true, "c7986bf47220c5e3da4f68f22a12080b06f1d498d6772042a661d37361e29450"), looks := true }, kinds := [], alts := [], laidByText := true, laidKinds := [.handle], laidTests := true, laidLooks := .later }
def SupplyAllCardSaid : Prop := Claim7.holds Tryd.pinned (.plain (OpenSpec.ofChange supplyAllSpec)) supplyAllCard

/-- THE TIED CARD OF 'framelaw3.SupplyTells'. -/
def supplyTellsCard : Claim7 := { stood := { row := supplyTellsRow, standIns := [], harness := (true, "c7986bf47220c5e3da4f68f22a12080b06f1d498d6772042a661d37361e29450"), looks := true }, kinds := [], alts := [], laidByText := true, laidKinds := [.handle], laidTests := true, laidLooks := .later }
def SupplyTellsCardSaid : Prop := Claim7.holds Tryd.pinned (.plain (OpenSpec.ofChange supplyTellsSpec)) supplyTellsCard

/-- THE SECOND FORM's CARD OF 'framelaw1.WirePlays'. -/
def wirePlaysUptoCard : Claim7 := { stood := { row := wirePlaysUptoRow, standIns := [], harness := (true, "c7986bf47220c5e3da4f68f22a12080b06f1d498d6772042a661d37361e29450"), looks := true }, kinds := [], alts := [], laidByText := true, laidKinds := [.handle], laidTests := true, laidLooks := .later }
def WirePlaysUptoCardSaid : Prop := Claim7.holds Tryd.pinned (.plain (OpenSpec.upto wirePlaysSpec)) wirePlaysUptoCard

/-- THE SECOND FORM's CARD OF 'framelaw1.FlowTells'. -/
def flowTellsUptoCard : Claim7 := { stood := { row := flowTellsUptoRow, standIns := [], harness := (true, "c7986bf47220c5e3da4f68f22a12080b06f1d498d6772042a661d37361e29450"), looks := true }, kinds := [], alts := [], laidByText := true, laidKinds := [.handle], laidTests := true, laidLooks := .later }
def FlowTellsUptoCardSaid : Prop := Claim7.holds Tryd.pinned (.plain (OpenSpec.upto flowTellsSpec)) flowTellsUptoCard

/-- THE SECOND FORM's CARD OF 'framelaw1.FrameTells'. -/
def frameTellsUptoCard : Claim7 := { stood := { row := frameTellsUptoRow, standIns := [], harness := (true, "c7986bf47220c5e3da4f68f22a12080b06f1d498d6772042a661d37361e29450"), looks := true }, kinds := [], alts := [], laidByText := true, laidKinds := [.handle], laidTests := true, laidLooks := .later }
def FrameTellsUptoCardSaid : Prop := Claim7.holds Tryd.pinned (.plain (OpenSpec.upto frameTellsSpec)) frameTellsUptoCard

/-- THE SECOND FORM's CARD OF 'framelaw1.FrameAgain'. -/
def frameAgainUptoCard : Claim7 := { stood := { row := frameAgainUptoRow, standIns := [], harness := (true, "c7986bf47220c5e3da4f68f22a12080b06f1d498d6772042a661d37361e29450"), looks := true }, kinds := [], alts := [], laidByText := true, laidKinds := [.handle], laidTests := true, laidLooks := .later }
def FrameAgainUptoCardSaid : Prop := Claim7.holds Tryd.pinned (.plain (OpenSpec.upto frameAgainSpec)) frameAgainUptoCard

/-- THE SECOND FORM's CARD OF 'framelaw4.LevelsNone'. -/
def levelsNoneUptoCard : Claim7 := { stood := { row := levelsNoneUptoRow, standIns := [], harness := (true, "c7986bf47220c5e3da4f68f22a12080b06f1d498d6772042a661d37361e29450"), looks := true }, kinds := [], alts := [], laidByText := true, laidKinds := [.handle], laidTests := true, laidLooks := .later }
def LevelsNoneUptoCardSaid : Prop := Claim7.holds Tryd.pinned (.plain (OpenSpec.upto levelsNoneSpec)) levelsNoneUptoCard

/-- THE SECOND FORM's CARD OF 'framelaw2.LevelsTell'. -/
def levelsTellUptoCard : Claim7 := { stood := { row := levelsTellUptoRow, standIns := [], harness := (true, "c7986bf47220c5e3da4f68f22a12080b06f1d498d6772042a661d37361e29450"), looks := true }, kinds := [], alts := [], laidByText := true, laidKinds := [.handle], laidTests := true, laidLooks := .later }
def LevelsTellUptoCardSaid : Prop := Claim7.holds Tryd.pinned (.plain (OpenSpec.upto levelsTellSpec)) levelsTellUptoCard

/-- THE SECOND FORM's CARD OF 'framelaw4.SupplyAll'. -/
def supplyAllUptoCard : Claim7 := { stood := { row := supplyAllUptoRow, standIns := [], harness := (true, "c7986bf47220c5e3da4f68f22a12080b06f1d498d6772042a661d37361e29450"), looks := true }, kinds := [], alts := [], laidByText := true, laidKinds := [.handle], laidTests := true, laidLooks := .later }
def SupplyAllUptoCardSaid : Prop := Claim7.holds Tryd.pinned (.plain (OpenSpec.upto supplyAllSpec)) supplyAllUptoCard

/-- THE SECOND FORM's CARD OF 'framelaw3.SupplyTells'. -/
def supplyTellsUptoCard : Claim7 := { stood := { row := supplyTellsUptoRow, standIns := [], harness := (true, "c7986bf47220c5e3da4f68f22a12080b06f1d498d6772042a661d37361e29450"), looks := true }, kinds := [], alts := [], laidByText := true, laidKinds := [.handle], laidTests := true, laidLooks := .later }
def SupplyTellsUptoCardSaid : Prop := Claim7.holds Tryd.pinned (.plain (OpenSpec.upto supplyTellsSpec)) supplyTellsUptoCard
end Rows
end Go.Proofs.YtfokcjooibmigaaDoor
