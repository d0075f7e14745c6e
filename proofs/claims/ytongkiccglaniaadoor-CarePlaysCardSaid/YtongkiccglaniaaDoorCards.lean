/-
  DERIVED. GIVEN WITH THE SEED: THE CARDS: each row of YtongkiccglaniaaDoorRows.lean that lists a variable, with what it lists TIED to the program's text (the seventh form; the later family's looks); each row that meets fmt, with fmt's text TOLD by the authors' own Lean function (tested against real Go, not proved from fmt's source: count such statements apart). THE CARD IS WHAT COUNTS. Prove the row's statement (the work); the ties are given (YtongkiccglaniaaDoorTie.lean); close each card by the builder's one call (the guide's Derived/Test/ToyasCard.lean, 'card_holds'). Laid BY PROGRAM, IN A SANDBOX (cutbox-door.mjs). By AI agents, Wed Nov 11 2026. No macro, syntax, notation, axiom, sorry.
-/
import Derived.Test.YtongkiccglaniaaDoorRows
import GoSem.ClaimSeven
namespace Go.Proofs.YtongkiccglaniaaDoor
namespace Rows

/-- THE TIED CARD OF 'framelaw4.AloneCounts'. -/
def aloneCountsCard : Claim7 := { stood := { row := aloneCountsRow, standIns := [], harness := (true, "1e3626b439fbcc7c7d548695489424b41571ffc6cadeed4964682366fa337de5"), looks := true }, kinds := [], alts := [], laidByText := true, laidKinds := [.widerDeep], laidTests := true, laidLooks := .later }
def AloneCountsCardSaid : Prop := Claim7.holds Tryd.pinned (.plain (OpenSpec.ofChange aloneCountsSpec)) aloneCountsCard

/-- THE TIED CARD OF 'framelaw2.AloneAgain'. -/
def aloneAgainCard : Claim7 := { stood := { row := aloneAgainRow, standIns := [], harness := (true, "1e3626b439fbcc7c7d548695489424b41571ffc6cadeed4964682366fa337de5"), looks := true }, kinds := [], alts := [], laidByText := true, laidKinds := [.handle, .widerDeep], laidTests := true, laidLooks := .later }
def AloneAgainCardSaid : Prop := Claim7.holds Tryd.pinned (.plain (OpenSpec.ofChange aloneAgainSpec)) aloneAgainCard

/-- THE TIED CARD OF 'framelaw2.AlonePlays'. -/
def alonePlaysCard : Claim7 := { stood := { row := alonePlaysRow, standIns := [], harness := (true, "1e3626b439fbcc7c7d548695489424b41571ffc6cadeed4964682366fa337de5"), looks := true }, kinds := [], alts := [], laidByText := true, laidKinds := [.handle, .widerDeep], laidTests := true, laidLooks := .later }
def AlonePlaysCardSaid : Prop := Claim7.holds Tryd.pinned (.plain (OpenSpec.ofChange alonePlaysSpec)) alonePlaysCard

/-- THE TIED CARD OF 'framelaw4.SpreadCounts'. -/
def spreadCountsCard : Claim7 := { stood := { row := spreadCountsRow, standIns := [], harness := (true, "1e3626b439fbcc7c7d548695489424b41571ffc6cadeed4964682366fa337de5"), looks := true }, kinds := [], alts := [], laidByText := true, laidKinds := [.widerDeep], laidTests := true, laidLooks := .later }
def SpreadCountsCardSaid : Prop := Claim7.holds Tryd.pinned (.plain (OpenSpec.ofChange spreadCountsSpec)) spreadCountsCard

/-- THE TIED CARD OF 'framelaw3.SpreadSame'. -/
def spreadSameCard : Claim7 := { stood := { row := spreadSameRow, standIns := [], harness := (true, "1e3626b439fbcc7c7d548695489424b41571ffc6cadeed4964682366fa337de5"), looks := true }, kinds := [], alts := [], laidByText := true, laidKinds := [.widerDeep], laidTests := true, laidLooks := .later }
def SpreadSameCardSaid : Prop := Claim7.holds Tryd.pinned (.plain (OpenSpec.ofChange spreadSameSpec)) spreadSameCard

/-- THE TIED CARD OF 'framelaw3.SpreadPlays'. -/
def spreadPlaysCard : Claim7 := { stood := { row := spreadPlaysRow, standIns := [], harness := (true, "1e3626b439fbcc7c7d548695489424b41571ffc6cadeed4964682366fa337de5"), looks := true }, kinds := [], alts := [], laidByText := true, laidKinds := [.handle, .widerDeep], laidTests := true, laidLooks := .later }
def SpreadPlaysCardSaid : Prop := Claim7.holds Tryd.pinned (.plain (OpenSpec.ofChange spreadPlaysSpec)) spreadPlaysCard

/-- THE TIED CARD OF 'framelaw4.TablesOne'. -/
def tablesOneCard : Claim7 := { stood := { row := tablesOneRow, standIns := [], harness := (true, "1e3626b439fbcc7c7d548695489424b41571ffc6cadeed4964682366fa337de5"), looks := true }, kinds := [], alts := [], laidByText := true, laidKinds := [.handle, .widerDeep], laidTests := true, laidLooks := .later }
def TablesOneCardSaid : Prop := Claim7.holds Tryd.pinned (.plain (OpenSpec.ofChange tablesOneSpec)) tablesOneCard

/-- THE TIED CARD OF 'framelaw2.TablesWhole'. -/
def tablesWholeCard : Claim7 := { stood := { row := tablesWholeRow, standIns := [], harness := (true, "1e3626b439fbcc7c7d548695489424b41571ffc6cadeed4964682366fa337de5"), looks := true }, kinds := [], alts := [], laidByText := true, laidKinds := [.widerDeep], laidTests := true, laidLooks := .later }
def TablesWholeCardSaid : Prop := Claim7.holds Tryd.pinned (.plain (OpenSpec.ofChange tablesWholeSpec)) tablesWholeCard

/-- THE TIED CARD OF 'framelaw2.TablesPlay'. -/
def tablesPlayCard : Claim7 := { stood := { row := tablesPlayRow, standIns := [], harness := (true, "1e3626b439fbcc7c7d548695489424b41571ffc6cadeed4964682366fa337de5"), looks := true }, kinds := [], alts := [], laidByText := true, laidKinds := [.handle, .widerDeep], laidTests := true, laidLooks := .later }
def TablesPlayCardSaid : Prop := Claim7.holds Tryd.pinned (.plain (OpenSpec.ofChange tablesPlaySpec)) tablesPlayCard

/-- THE TIED CARD OF 'framelaw2.PurgeSame'. -/
def purgeSameCard : Claim7 := { stood := { row := purgeSameRow, standIns := [], harness := (true, "1e3626b439fbcc7c7d548695489424b41571ffc6cadeed4964682366fa337de5"), looks := true }, kinds := [], alts := [], laidByText := true, laidKinds := [.widerDeep], laidTests := true, laidLooks := .later }
def PurgeSameCardSaid : Prop := Claim7.holds Tryd.pinned (.plain (OpenSpec.ofChange purgeSameSpec)) purgeSameCard

/-- THE TIED CARD OF 'framelaw2.PurgeTells'. -/
def purgeTellsCard : Claim7 := { stood := { row := purgeTellsRow, standIns := [], harness := (true, "1e3626b439fbcc7c7d548695489424b41571ffc6cadeed4964682366fa337de5"), looks := true }, kinds := [], alts := [], laidByText := true, laidKinds := [.handle, .widerDeep], laidTests := true, laidLooks := .later }
def PurgeTellsCardSaid : Prop := Claim7.holds Tryd.pinned (.plain (OpenSpec.ofChange purgeTellsSpec)) purgeTellsCard

/-- THE TIED CARD OF 'frametop.TopApart'. -/
def topApartCard : Claim7 := { stood := { row := topApartRow, standIns := [], harness := (true, "1e3626b439fbcc7c7d548695489424b41571ffc6cadeed4964682366fa337de5"), looks := true }, kinds := [], alts := [], laidByText := true, laidKinds := [.widerDeep], laidTests := true, laidLooks := .later }
def TopApartCardSaid : Prop := Claim7.holds Tryd.pinned (.plain (OpenSpec.ofChange topApartSpec)) topApartCard

/-- THE TIED CARD OF 'framelaw2.CarePlays'. -/
def carePlaysCard : Claim7 := { stood := { row := carePlaysRow, standIns := [], harness := (true, "1e3626b439fbcc7c7d548695489424b41571ffc6cadeed4964682366fa337de5"), looks := true }, kinds := [], alts := [], laidByText := true, laidKinds := [.handle, .widerDeep], laidTests := true, laidLooks := .later }
def CarePlaysCardSaid : Prop := Claim7.holds Tryd.pinned (.plain (OpenSpec.ofChange carePlaysSpec)) carePlaysCard

/-- THE TIED CARD OF 'framelaw4.TraceTurns'. -/
def traceTurnsCard : Claim7 := { stood := { row := traceTurnsRow, standIns := [], harness := (true, "1e3626b439fbcc7c7d548695489424b41571ffc6cadeed4964682366fa337de5"), looks := true }, kinds := [], alts := [], laidByText := true, laidKinds := [.handle, .widerDeep], laidTests := true, laidLooks := .later }
def TraceTurnsCardSaid : Prop := Claim7.holds Tryd.pinned (.plain (OpenSpec.ofChange traceTurnsSpec)) traceTurnsCard

/-- THE SECOND FORM's CARD OF 'framelaw4.AloneCounts'. -/
def aloneCountsUptoCard : Claim7 := { stood := { row := aloneCountsUptoRow, standIns := [], harness := (true, "1e3626b439fbcc7c7d548695489424b41571ffc6cadeed4964682366fa337de5"), looks := true }, kinds := [], alts := [], laidByText := true, laidKinds := [.widerDeep], laidTests := true, laidLooks := .later }
def AloneCountsUptoCardSaid : Prop := Claim7.holds Tryd.pinned (.plain (OpenSpec.upto aloneCountsSpec)) aloneCountsUptoCard

/-- THE SECOND FORM's CARD OF 'framelaw2.AloneAgain'. -/
def aloneAgainUptoCard : Claim7 := { stood := { row := aloneAgainUptoRow, standIns := [], harness := (true, "1e3626b439fbcc7c7d548695489424b41571ffc6cadeed4964682366fa337de5"), looks := true }, kinds := [], alts := [], laidByText := true, laidKinds := [.handle, .widerDeep], laidTests := true, laidLooks := .later }
def AloneAgainUptoCardSaid : Prop := Claim7.holds Tryd.pinned (.plain (OpenSpec.upto aloneAgainSpec)) aloneAgainUptoCard

/-- THE SECOND FORM's CARD OF 'framelaw2.AlonePlays'. -/
def alonePlaysUptoCard : Claim7 := { stood := { row := alonePlaysUptoRow, standIns := [], harness := (true, "1e3626b439fbcc7c7d548695489424b41571ffc6cadeed4964682366fa337de5"), looks := true }, kinds := [], alts := [], laidByText := true, laidKinds := [.handle, .widerDeep], laidTests := true, laidLooks := .later }
def AlonePlaysUptoCardSaid : Prop := Claim7.holds Tryd.pinned (.plain (OpenSpec.upto alonePlaysSpec)) alonePlaysUptoCard

/-- THE SECOND FORM's CARD OF 'framelaw4.SpreadCounts'. -/
def spreadCountsUptoCard : Claim7 := { stood := { row := spreadCountsUptoRow, standIns := [], harness := (true, "1e3626b439fbcc7c7d548695489424b41571ffc6cadeed4964682366fa337de5"), looks := true }, kinds := [], alts := [], laidByText := true, laidKinds := [.widerDeep], laidTests := true, laidLooks := .later }
def SpreadCountsUptoCardSaid : Prop := Claim7.holds Tryd.pinned (.plain (OpenSpec.upto spreadCountsSpec)) spreadCountsUptoCard

/-- THE SECOND FORM's CARD OF 'framelaw3.SpreadSame'. -/
def spreadSameUptoCard : Claim7 := { stood := { row := spreadSameUptoRow, standIns := [], harness := (true, "1e3626b439fbcc7c7d548695489424b41571ffc6cadeed4964682366fa337de5"), looks := true }, kinds := [], alts := [], laidByText := true, laidKinds := [.widerDeep], laidTests := true, laidLooks := .later }
def SpreadSameUptoCardSaid : Prop := Claim7.holds Tryd.pinned (.plain (OpenSpec.upto spreadSameSpec)) spreadSameUptoCard

/-- THE SECOND FORM's CARD OF 'framelaw3.SpreadPlays'. -/
def spreadPlaysUptoCard : Claim7 := { stood := { row := spreadPlaysUptoRow, standIns := [], harness := (true, "1e3626b439fbcc7c7d548695489424b41571ffc6cadeed4964682366fa337de5"), looks := true }, kinds := [], alts := [], laidByText := true, laidKinds := [.handle, .widerDeep], laidTests := true, laidLooks := .later }
def SpreadPlaysUptoCardSaid : Prop := Claim7.holds Tryd.pinned (.plain (OpenSpec.upto spreadPlaysSpec)) spreadPlaysUptoCard

/-- THE SECOND FORM's CARD OF 'framelaw4.TablesOne'. -/
def tablesOneUptoCard : Claim7 := { stood := { row := tablesOneUptoRow, standIns := [], harness := (true, "1e3626b439fbcc7c7d548695489424b41571ffc6cadeed4964682366fa337de5"), looks := true }, kinds := [], alts := [], laidByText := true, laidKinds := [.handle, .widerDeep], laidTests := true, laidLooks := .later }
def TablesOneUptoCardSaid : Prop := Claim7.holds Tryd.pinned (.plain (OpenSpec.upto tablesOneSpec)) tablesOneUptoCard

/-- THE SECOND FORM's CARD OF 'framelaw2.TablesWhole'. -/
def tablesWholeUptoCard : Claim7 := { stood := { row := tablesWholeUptoRow, standIns := [], harness := (true, "1e3626b439fbcc7c7d548695489424b41571ffc6cadeed4964682366fa337de5"), looks := true }, kinds := [], alts := [], laidByText := true, laidKinds := [.widerDeep], laidTests := true, laidLooks := .later }
def TablesWholeUptoCardSaid : Prop := Claim7.holds Tryd.pinned (.plain (OpenSpec.upto tablesWholeSpec)) tablesWholeUptoCard

/-- THE SECOND FORM's CARD OF 'framelaw2.TablesPlay'. -/
def tablesPlayUptoCard : Claim7 := { stood := { row := tablesPlayUptoRow, standIns := [], harness := (true, "1e3626b439fbcc7c7d548695489424b41571ffc6cadeed4964682366fa337de5"), looks := true }, kinds := [], alts := [], laidByText := true, laidKinds := [.handle, .widerDeep], laidTests := true, laidLooks := .later }
def TablesPlayUptoCardSaid : Prop := Claim7.holds Tryd.pinned (.plain (OpenSpec.upto tablesPlaySpec)) tablesPlayUptoCard

/-- THE SECOND FORM's CARD OF 'framelaw2.PurgeSame'. -/
def purgeSameUptoCard : Claim7 := { stood := { row := purgeSameUptoRow, standIns := [], harness := (true, "1e3626b439fbcc7c7d548695489424b41571ffc6cadeed4964682366fa337de5"), looks := true }, kinds := [], alts := [], laidByText := true, laidKinds := [.widerDeep], laidTests := true, laidLooks := .later }
def PurgeSameUptoCardSaid : Prop := Claim7.holds Tryd.pinned (.plain (OpenSpec.upto purgeSameSpec)) purgeSameUptoCard

/-- THE SECOND FORM's CARD OF 'framelaw2.PurgeTells'. -/
def purgeTellsUptoCard : Claim7 := { stood := { row := purgeTellsUptoRow, standIns := [], harness := (true, "1e3626b439fbcc7c7d548695489424b41571ffc6cadeed4964682366fa337de5"), looks := true }, kinds := [], alts := [], laidByText := true, laidKinds := [.handle, .widerDeep], laidTests := true, laidLooks := .later }
def PurgeTellsUptoCardSaid : Prop := Claim7.holds Tryd.pinned (.plain (OpenSpec.upto purgeTellsSpec)) purgeTellsUptoCard

/-- THE SECOND FORM's CARD OF 'frametop.TopApart'. -/
def topApartUptoCard : Claim7 := { stood := { row := topApartUptoRow, standIns := [], harness := (true, "1e3626b439fbcc7c7d548695489424b41571ffc6cadeed4964682366fa337de5"), looks := true }, kinds := [], alts := [], laidByText := true, laidKinds := [.widerDeep], laidTests := true, laidLooks := .later }
def TopApartUptoCardSaid : Prop := Claim7.holds Tryd.pinned (.plain (OpenSpec.upto topApartSpec)) topApartUptoCard

/-- THE SECOND FORM's CARD OF 'framelaw2.CarePlays'. -/
def carePlaysUptoCard : Claim7 := { stood := { row := carePlaysUptoRow, standIns := [], harness := (true, "1e3626b439fbcc7c7d548695489424b41571ffc6cadeed4964682366fa337de5"), looks := true }, kinds := [], alts := [], laidByText := true, laidKinds := [.handle, .widerDeep], laidTests := true, laidLooks := .later }
def CarePlaysUptoCardSaid : Prop := Claim7.holds Tryd.pinned (.plain (OpenSpec.upto carePlaysSpec)) carePlaysUptoCard

/-- THE SECOND FORM's CARD OF 'framelaw4.TraceTurns'. -/
def traceTurnsUptoCard : Claim7 := { stood := { row := traceTurnsUptoRow, standIns := [], harness := (true, "1e3626b439fbcc7c7d548695489424b41571ffc6cadeed4964682366fa337de5"), looks := true }, kinds := [], alts := [], laidByText := true, laidKinds := [.handle, .widerDeep], laidTests := true, laidLooks := .later }
def TraceTurnsUptoCardSaid : Prop := Claim7.holds Tryd.pinned (.plain (OpenSpec.upto traceTurnsSpec)) traceTurnsUptoCard
end Rows
end Go.Proofs.YtongkiccglaniaaDoor
