/-
  DERIVED. GIVEN WITH THE SEED: THE CARDS: each row of YtpkhdlnlkeehhaaGreatDoorRows.lean that lists a variable, with what it lists TIED to the program's text (the seventh form; the later family's looks); each row that meets fmt, with fmt's text TOLD by the authors' own Lean function (tested against real Go, not proved from fmt's source: count such statements apart). THE CARD IS WHAT COUNTS. Prove the row's statement (the work); the ties are given (YtpkhdlnlkeehhaaGreatDoorTie.lean); close each card by the builder's one call (the guide's Derived/Test/ToyasCard.lean, 'card_holds'). Laid BY PROGRAM, IN A SANDBOX (cutbox-door.mjs). By AI agents, Wed Nov 11 2026. No macro, syntax, notation, axiom, sorry.
-/
import Derived.Test.YtpkhdlnlkeehhaaGreatDoorRows
import GoSem.ClaimSeven
namespace Go.Proofs.YtpkhdlnlkeehhaaGreatDoor
namespace Rows

/-- THE TIED CARD OF 'touchstonelaw07.ParseTells'. -/
def parseTellsCard : Claim7 := { stood := { row := parseTellsRow, standIns := [], harness := (true, "6af4f3978d52123f6a8f9ad4152d518578747b87d5c40cb4eda55f4c933979a8"), looks := false }, kinds := [], alts := [], laidByText := true, laidKinds := [.data, .data, .data, .data, .pinned], laidTests := true, laidLooks := .later }
def ParseTellsCardSaid : Prop := Claim7.holds Tryz.pinned (.plain (OpenSpec.ofChange parseTellsSpec)) parseTellsCard

/-- THE TIED CARD OF 'touchstonelaw07.ParseDepths'. -/
def parseDepthsCard : Claim7 := { stood := { row := parseDepthsRow, standIns := [], harness := (true, "6af4f3978d52123f6a8f9ad4152d518578747b87d5c40cb4eda55f4c933979a8"), looks := false }, kinds := [], alts := [], laidByText := true, laidKinds := [.data, .data, .data, .data, .pinned], laidTests := true, laidLooks := .later }
def ParseDepthsCardSaid : Prop := Claim7.holds Tryz.pinned (.plain (OpenSpec.ofChange parseDepthsSpec)) parseDepthsCard

/-- THE TIED CARD OF 'touchstonelaw07.ParseFormulas'. -/
def parseFormulasCard : Claim7 := { stood := { row := parseFormulasRow, standIns := [], harness := (true, "6af4f3978d52123f6a8f9ad4152d518578747b87d5c40cb4eda55f4c933979a8"), looks := false }, kinds := [], alts := [], laidByText := true, laidKinds := [.data, .data, .data, .data, .pinned], laidTests := true, laidLooks := .later }
def ParseFormulasCardSaid : Prop := Claim7.holds Tryz.pinned (.plain (OpenSpec.ofChange parseFormulasSpec)) parseFormulasCard

/-- THE TIED CARD OF 'touchstonelaw07.ParseWhole'. -/
def parseWholeCard : Claim7 := { stood := { row := parseWholeRow, standIns := [], harness := (true, "6af4f3978d52123f6a8f9ad4152d518578747b87d5c40cb4eda55f4c933979a8"), looks := false }, kinds := [], alts := [], laidByText := true, laidKinds := [.data, .data, .data, .data, .pinned], laidTests := true, laidLooks := .later }
def ParseWholeCardSaid : Prop := Claim7.holds Tryz.pinned (.plain (OpenSpec.ofChange parseWholeSpec)) parseWholeCard

/-- THE TIED CARD OF 'touchstonelaw07.ParseLimits'. -/
def parseLimitsCard : Claim7 := { stood := { row := parseLimitsRow, standIns := [], harness := (true, "6af4f3978d52123f6a8f9ad4152d518578747b87d5c40cb4eda55f4c933979a8"), looks := false }, kinds := [], alts := [], laidByText := true, laidKinds := [.data, .data, .data, .data, .pinned], laidTests := true, laidLooks := .later }
def ParseLimitsCardSaid : Prop := Claim7.holds Tryz.pinned (.plain (OpenSpec.ofChange parseLimitsSpec)) parseLimitsCard

/-- THE SECOND FORM's CARD OF 'touchstonelaw07.ParseTells'. -/
def parseTellsUptoCard : Claim7 := { stood := { row := parseTellsUptoRow, standIns := [], harness := (true, "6af4f3978d52123f6a8f9ad4152d518578747b87d5c40cb4eda55f4c933979a8"), looks := false }, kinds := [], alts := [], laidByText := true, laidKinds := [.data, .data, .data, .data, .pinned], laidTests := true, laidLooks := .later }
def ParseTellsUptoCardSaid : Prop := Claim7.holds Tryz.pinned (.plain (OpenSpec.upto parseTellsSpec)) parseTellsUptoCard

/-- THE SECOND FORM's CARD OF 'touchstonelaw07.ParseDepths'. -/
def parseDepthsUptoCard : Claim7 := { stood := { row := parseDepthsUptoRow, standIns := [], harness := (true, "6af4f3978d52123f6a8f9ad4152d518578747b87d5c40cb4eda55f4c933979a8"), looks := false }, kinds := [], alts := [], laidByText := true, laidKinds := [.data, .data, .data, .data, .pinned], laidTests := true, laidLooks := .later }
def ParseDepthsUptoCardSaid : Prop := Claim7.holds Tryz.pinned (.plain (OpenSpec.upto parseDepthsSpec)) parseDepthsUptoCard

/-- THE SECOND FORM's CARD OF 'touchstonelaw07.ParseFormulas'. -/
def parseFormulasUptoCard : Claim7 := { stood := { row := parseFormulasUptoRow, standIns := [], harness := (true, "6af4f3978d52123f6a8f9ad4152d518578747b87d5c40cb4eda55f4c933979a8"), looks := false }, kinds := [], alts := [], laidByText := true, laidKinds := [.data, .data, .data, .data, .pinned], laidTests := true, laidLooks := .later }
def ParseFormulasUptoCardSaid : Prop := Claim7.holds Tryz.pinned (.plain (OpenSpec.upto parseFormulasSpec)) parseFormulasUptoCard

/-- THE SECOND FORM's CARD OF 'touchstonelaw07.ParseWhole'. -/
def parseWholeUptoCard : Claim7 := { stood := { row := parseWholeUptoRow, standIns := [], harness := (true, "6af4f3978d52123f6a8f9ad4152d518578747b87d5c40cb4eda55f4c933979a8"), looks := false }, kinds := [], alts := [], laidByText := true, laidKinds := [.data, .data, .data, .data, .pinned], laidTests := true, laidLooks := .later }
def ParseWholeUptoCardSaid : Prop := Claim7.holds Tryz.pinned (.plain (OpenSpec.upto parseWholeSpec)) parseWholeUptoCard

/-- THE SECOND FORM's CARD OF 'touchstonelaw07.ParseLimits'. -/
def parseLimitsUptoCard : Claim7 := { stood := { row := parseLimitsUptoRow, standIns := [], harness := (true, "6af4f3978d52123f6a8f9ad4152d518578747b87d5c40cb4eda55f4c933979a8"), looks := false }, kinds := [], alts := [], laidByText := true, laidKinds := [.data, .data, .data, .data, .pinned], laidTests := true, laidLooks := .later }
def ParseLimitsUptoCardSaid : Prop := Claim7.holds Tryz.pinned (.plain (OpenSpec.upto parseLimitsSpec)) parseLimitsUptoCard
end Rows
end Go.Proofs.YtpkhdlnlkeehhaaGreatDoor
