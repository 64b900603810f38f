/-
  DERIVED. GIVEN WITH THE SEED: THE CARDS: each row of YtiecccakcenobaaGreatDoorRows.lean that lists a variable, with what it lists TIED to the program's text (the seventh form; the later family's looks); each row that meets fmt, with fmt's text TOLD by the authors' own Lean function (tested against real Go, not proved from fmt's source: count such statements apart). THE CARD IS WHAT COUNTS. Prove the row's statement (the work); the ties are given (YtiecccakcenobaaGreatDoorTie.lean); close each card by the builder's one call (the guide's Derived/Test/ToyasCard.lean, 'card_holds'). Laid BY PROGRAM, IN A SANDBOX (cutbox-door.mjs). By AI agents, Wed Nov 11 2026. No macro, syntax, notation, axiom, sorry.
-/
import Derived.Test.YtiecccakcenobaaGreatDoorRows
import GoSem.ClaimSeven
namespace Go.Proofs.YtiecccakcenobaaGreatDoor
namespace Rows

/-- THE TIED CARD OF 'touchstonelaw13.TermReads'. -/
def termReadsCard : Claim7 := { stood := { row := termReadsRow, standIns := [], harness := (true, "1767b20c967919e07a4a4d1553bb054857694d9f9e3c2f504ec77a018f485c03"), looks := false }, kinds := [], alts := [], laidByText := true, laidKinds := [.data, .data, .data, .data, .pinned], laidTests := true, laidLooks := .later }
def TermReadsCardSaid : Prop := Claim7.holds Tryz.pinned (.plain (OpenSpec.ofChange termReadsSpec)) termReadsCard

/-- THE TIED CARD OF 'touchstonelaw13.TermPuts'. -/
def termPutsCard : Claim7 := { stood := { row := termPutsRow, standIns := [], harness := (true, "1767b20c967919e07a4a4d1553bb054857694d9f9e3c2f504ec77a018f485c03"), looks := false }, kinds := [], alts := [], laidByText := true, laidKinds := [.data, .data, .data, .data, .pinned], laidTests := true, laidLooks := .later }
def TermPutsCardSaid : Prop := Claim7.holds Tryz.pinned (.plain (OpenSpec.ofChange termPutsSpec)) termPutsCard

/-- THE TIED CARD OF 'touchstonelaw13.TermValues'. -/
def termValuesCard : Claim7 := { stood := { row := termValuesRow, standIns := [], harness := (true, "1767b20c967919e07a4a4d1553bb054857694d9f9e3c2f504ec77a018f485c03"), looks := false }, kinds := [], alts := [], laidByText := true, laidKinds := [.data, .data, .data, .data, .pinned], laidTests := true, laidLooks := .later }
def TermValuesCardSaid : Prop := Claim7.holds Tryz.pinned (.plain (OpenSpec.ofChange termValuesSpec)) termValuesCard

/-- THE TIED CARD OF 'touchstonelaw13.TermDivides'. -/
def termDividesCard : Claim7 := { stood := { row := termDividesRow, standIns := [], harness := (true, "1767b20c967919e07a4a4d1553bb054857694d9f9e3c2f504ec77a018f485c03"), looks := false }, kinds := [], alts := [], laidByText := true, laidKinds := [.data, .data, .data, .data, .pinned], laidTests := true, laidLooks := .later }
def TermDividesCardSaid : Prop := Claim7.holds Tryz.pinned (.plain (OpenSpec.ofChange termDividesSpec)) termDividesCard

/-- THE SECOND FORM's CARD OF 'touchstonelaw13.TermReads'. -/
def termReadsUptoCard : Claim7 := { stood := { row := termReadsUptoRow, standIns := [], harness := (true, "1767b20c967919e07a4a4d1553bb054857694d9f9e3c2f504ec77a018f485c03"), looks := false }, kinds := [], alts := [], laidByText := true, laidKinds := [.data, .data, .data, .data, .pinned], laidTests := true, laidLooks := .later }
def TermReadsUptoCardSaid : Prop := Claim7.holds Tryz.pinned (.plain (OpenSpec.upto termReadsSpec)) termReadsUptoCard

/-- THE SECOND FORM's CARD OF 'touchstonelaw13.TermPuts'. -/
def termPutsUptoCard : Claim7 := { stood := { row := termPutsUptoRow, standIns := [], harness := (true, "1767b20c967919e07a4a4d1553bb054857694d9f9e3c2f504ec77a018f485c03"), looks := false }, kinds := [], alts := [], laidByText := true, laidKinds := [.data, .data, .data, .data, .pinned], laidTests := true, laidLooks := .later }
def TermPutsUptoCardSaid : Prop := Claim7.holds Tryz.pinned (.plain (OpenSpec.upto termPutsSpec)) termPutsUptoCard

/-- THE SECOND FORM's CARD OF 'touchstonelaw13.TermValues'. -/
def termValuesUptoCard : Claim7 := { stood := { row := termValuesUptoRow, standIns := [], harness := (true, "1767b20c967919e07a4a4d1553bb054857694d9f9e3c2f504ec77a018f485c03"), looks := false }, kinds := [], alts := [], laidByText := true, laidKinds := [.data, .data, .data, .data, .pinned], laidTests := true, laidLooks := .later }
def TermValuesUptoCardSaid : Prop := Claim7.holds Tryz.pinned (.plain (OpenSpec.upto termValuesSpec)) termValuesUptoCard

/-- THE SECOND FORM's CARD OF 'touchstonelaw13.TermDivides'. -/
def termDividesUptoCard : Claim7 := { stood := { row := termDividesUptoRow, standIns := [], harness := (true, "1767b20c967919e07a4a4d1553bb054857694d9f9e3c2f504ec77a018f485c03"), looks := false }, kinds := [], alts := [], laidByText := true, laidKinds := [.data, .data, .data, .data, .pinned], laidTests := true, laidLooks := .later }
def TermDividesUptoCardSaid : Prop := Claim7.holds Tryz.pinned (.plain (OpenSpec.upto termDividesSpec)) termDividesUptoCard
end Rows
end Go.Proofs.YtiecccakcenobaaGreatDoor
