/-
  DERIVED. GIVEN WITH THE SEED: THE CARDS: each row of YtfoelgkkoopheaaDoorRows.lean that lists a variable, with what it lists TIED to the program's text (the seventh form; the later family's looks); each row that meets fmt, with fmt's text TOLD by the authors' own Lean function (tested against real Go, not proved from fmt's source: count such statements apart). THE CARD IS WHAT COUNTS. Prove the row's statement (the work); the ties are given (YtfoelgkkoopheaaDoorTie.lean); close each card by the builder's one call (the guide's Derived/Test/ToyasCard.lean, 'card_holds'). Laid BY PROGRAM, IN A SANDBOX (cutbox-door.mjs). By AI agents, Wed Nov 11 2026. No macro, syntax, notation, axiom, sorry.
-/
import Derived.Test.YtfoelgkkoopheaaDoorRows
import GoSem.ClaimSeven
namespace Go.Proofs.YtfoelgkkoopheaaDoor
namespace Rows

/-- THE TIED CARD OF 'touchstonelaw06.TreeBuilds'. -/
def treeBuildsCard : Claim7 := { stood := { row := treeBuildsRow, standIns := [], harness := (true, "4e97a17132743d3a96b764d1e85d85c7fa0fbe0e54f8e82b5b480c8ba7bd7756"), looks := false }, kinds := [], alts := [], laidByText := true, laidKinds := [.data, .data, .data, .data, .pinned], laidTests := true, laidLooks := .later }
def TreeBuildsCardSaid : Prop := Claim7.holds Tryd.pinned (.plain (OpenSpec.ofChange treeBuildsSpec)) treeBuildsCard

/-- THE TIED CARD OF 'touchstonelaw06.TreeFinds'. -/
def treeFindsCard : Claim7 := { stood := { row := treeFindsRow, standIns := [], harness := (true, "4e97a17132743d3a96b764d1e85d85c7fa0fbe0e54f8e82b5b480c8ba7bd7756"), looks := false }, kinds := [], alts := [], laidByText := true, laidKinds := [.data, .data, .data, .data, .pinned], laidTests := true, laidLooks := .later }
def TreeFindsCardSaid : Prop := Claim7.holds Tryd.pinned (.plain (OpenSpec.ofChange treeFindsSpec)) treeFindsCard

/-- THE TIED CARD OF 'touchstonelaw06.TreeFlat'. -/
def treeFlatCard : Claim7 := { stood := { row := treeFlatRow, standIns := [], harness := (true, "4e97a17132743d3a96b764d1e85d85c7fa0fbe0e54f8e82b5b480c8ba7bd7756"), looks := false }, kinds := [], alts := [], laidByText := true, laidKinds := [.data, .data, .data, .data, .pinned], laidTests := true, laidLooks := .later }
def TreeFlatCardSaid : Prop := Claim7.holds Tryd.pinned (.plain (OpenSpec.ofChange treeFlatSpec)) treeFlatCard

/-- THE TIED CARD OF 'touchstonelaw06.TreeRights'. -/
def treeRightsCard : Claim7 := { stood := { row := treeRightsRow, standIns := [], harness := (true, "4e97a17132743d3a96b764d1e85d85c7fa0fbe0e54f8e82b5b480c8ba7bd7756"), looks := false }, kinds := [], alts := [], laidByText := true, laidKinds := [.data, .data, .data, .data, .pinned], laidTests := true, laidLooks := .later }
def TreeRightsCardSaid : Prop := Claim7.holds Tryd.pinned (.plain (OpenSpec.ofChange treeRightsSpec)) treeRightsCard

/-- THE SECOND FORM's CARD OF 'touchstonelaw06.TreeBuilds'. -/
def treeBuildsUptoCard : Claim7 := { stood := { row := treeBuildsUptoRow, standIns := [], harness := (true, "4e97a17132743d3a96b764d1e85d85c7fa0fbe0e54f8e82b5b480c8ba7bd7756"), looks := false }, kinds := [], alts := [], laidByText := true, laidKinds := [.data, .data, .data, .data, .pinned], laidTests := true, laidLooks := .later }
def TreeBuildsUptoCardSaid : Prop := Claim7.holds Tryd.pinned (.plain (OpenSpec.upto treeBuildsSpec)) treeBuildsUptoCard

/-- THE SECOND FORM's CARD OF 'touchstonelaw06.TreeFinds'. -/
def treeFindsUptoCard : Claim7 := { stood := { row := treeFindsUptoRow, standIns := [], harness := (true, "4e97a17132743d3a96b764d1e85d85c7fa0fbe0e54f8e82b5b480c8ba7bd7756"), looks := false }, kinds := [], alts := [], laidByText := true, laidKinds := [.data, .data, .data, .data, .pinned], laidTests := true, laidLooks := .later }
def TreeFindsUptoCardSaid : Prop := Claim7.holds Tryd.pinned (.plain (OpenSpec.upto treeFindsSpec)) treeFindsUptoCard

/-- THE SECOND FORM's CARD OF 'touchstonelaw06.TreeFlat'. -/
def treeFlatUptoCard : Claim7 := { stood := { row := treeFlatUptoRow, standIns := [], harness := (true, "4e97a17132743d3a96b764d1e85d85c7fa0fbe0e54f8e82b5b480c8ba7bd7756"), looks := false }, kinds := [], alts := [], laidByText := true, laidKinds := [.data, .data, .data, .data, .pinned], laidTests := true, laidLooks := .later }
def TreeFlatUptoCardSaid : Prop := Claim7.holds Tryd.pinned (.plain (OpenSpec.upto treeFlatSpec)) treeFlatUptoCard

/-- THE SECOND FORM's CARD OF 'touchstonelaw06.TreeRights'. -/
def treeRightsUptoCard : Claim7 := { stood := { row := treeRightsUptoRow, standIns := [], harness := (true, "4e97a17132743d3a96b764d1e85d85c7fa0fbe0e54f8e82b5b480c8ba7bd7756"), looks := false }, kinds := [], alts := [], laidByText := true, laidKinds := [.data, .data, .data, .data, .pinned], laidTests := true, laidLooks := .later }
def TreeRightsUptoCardSaid : Prop := Claim7.holds Tryd.pinned (.plain (OpenSpec.upto treeRightsSpec)) treeRightsUptoCard
end Rows
end Go.Proofs.YtfoelgkkoopheaaDoor
