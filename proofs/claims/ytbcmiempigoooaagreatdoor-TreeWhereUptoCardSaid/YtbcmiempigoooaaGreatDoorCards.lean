/-
  DERIVED. GIVEN WITH THE SEED: THE CARDS: each row of YtbcmiempigoooaaGreatDoorRows.lean that lists a variable, with what it lists TIED to the program's text (the seventh form; the later family's looks); each row that meets fmt, with fmt's text TOLD by the authors' own Lean function (tested against real Go, not proved from fmt's source: count such statements apart). THE CARD IS WHAT COUNTS. Prove the row's statement (the work); the ties are given (YtbcmiempigoooaaGreatDoorTie.lean); close each card by the builder's one call (the guide's Derived/Test/ToyasCard.lean, 'card_holds'). Laid BY PROGRAM, IN A SANDBOX (cutbox-door.mjs). By AI agents, Wed Nov 11 2026. No macro, syntax, notation, axiom, sorry.
-/
import Derived.Test.YtbcmiempigoooaaGreatDoorRows
import GoSem.ClaimSeven
namespace Go.Proofs.YtbcmiempigoooaaGreatDoor
namespace Rows

/-- THE TIED CARD OF 'arguslaw02.TreeParses'. -/
def treeParsesCard : Claim7 := { stood := { row := treeParsesRow, standIns := [], harness := (true, "be313c5a280033afbaeb4c2df09cfaf086f36e58ea707771e5e6ac4d20e84f56"), looks := true }, kinds := [], alts := [], laidByText := true, laidKinds := [.data, .data, .data, .sentinel, .sentinel, .listed, .data], laidTests := true, laidLooks := .later }
def TreeParsesCardSaid : Prop := Claim7.holds Tryz.pinned (.plain (OpenSpec.ofChange treeParsesSpec)) treeParsesCard

/-- THE TIED CARD OF 'arguslaw02.TreeTypes'. -/
def treeTypesCard : Claim7 := { stood := { row := treeTypesRow, standIns := [], harness := (true, "be313c5a280033afbaeb4c2df09cfaf086f36e58ea707771e5e6ac4d20e84f56"), looks := true }, kinds := [], alts := [], laidByText := true, laidKinds := [.data, .data, .data, .sentinel, .sentinel, .listed, .data], laidTests := true, laidLooks := .later }
def TreeTypesCardSaid : Prop := Claim7.holds Tryz.pinned (.plain (OpenSpec.ofChange treeTypesSpec)) treeTypesCard

/-- THE TIED CARD OF 'arguslaw02.TreeExprs'. -/
def treeExprsCard : Claim7 := { stood := { row := treeExprsRow, standIns := [], harness := (true, "be313c5a280033afbaeb4c2df09cfaf086f36e58ea707771e5e6ac4d20e84f56"), looks := true }, kinds := [], alts := [], laidByText := true, laidKinds := [.data, .data, .data, .sentinel, .sentinel, .listed, .data], laidTests := true, laidLooks := .later }
def TreeExprsCardSaid : Prop := Claim7.holds Tryz.pinned (.plain (OpenSpec.ofChange treeExprsSpec)) treeExprsCard

/-- THE TIED CARD OF 'arguslaw02.TreeSizes'. -/
def treeSizesCard : Claim7 := { stood := { row := treeSizesRow, standIns := [], harness := (true, "be313c5a280033afbaeb4c2df09cfaf086f36e58ea707771e5e6ac4d20e84f56"), looks := true }, kinds := [], alts := [], laidByText := true, laidKinds := [.data, .data, .data, .sentinel, .sentinel, .listed, .data], laidTests := true, laidLooks := .later }
def TreeSizesCardSaid : Prop := Claim7.holds Tryz.pinned (.plain (OpenSpec.ofChange treeSizesSpec)) treeSizesCard

/-- THE TIED CARD OF 'arguslaw02.TreeLayout'. -/
def treeLayoutCard : Claim7 := { stood := { row := treeLayoutRow, standIns := [], harness := (true, "be313c5a280033afbaeb4c2df09cfaf086f36e58ea707771e5e6ac4d20e84f56"), looks := true }, kinds := [], alts := [], laidByText := true, laidKinds := [.data, .data, .data, .sentinel, .sentinel, .listed, .data], laidTests := true, laidLooks := .later }
def TreeLayoutCardSaid : Prop := Claim7.holds Tryz.pinned (.plain (OpenSpec.ofChange treeLayoutSpec)) treeLayoutCard

/-- THE TIED CARD OF 'arguslaw02.TreeBrackets'. -/
def treeBracketsCard : Claim7 := { stood := { row := treeBracketsRow, standIns := [], harness := (true, "be313c5a280033afbaeb4c2df09cfaf086f36e58ea707771e5e6ac4d20e84f56"), looks := true }, kinds := [], alts := [], laidByText := true, laidKinds := [.data, .data, .data, .sentinel, .sentinel, .listed, .data], laidTests := true, laidLooks := .later }
def TreeBracketsCardSaid : Prop := Claim7.holds Tryz.pinned (.plain (OpenSpec.ofChange treeBracketsSpec)) treeBracketsCard

/-- THE TIED CARD OF 'arguslaw02.TreePrints'. -/
def treePrintsCard : Claim7 := { stood := { row := treePrintsRow, standIns := [], harness := (true, "be313c5a280033afbaeb4c2df09cfaf086f36e58ea707771e5e6ac4d20e84f56"), looks := true }, kinds := [], alts := [], laidByText := true, laidKinds := [.data, .data, .data, .sentinel, .sentinel, .listed, .data], laidTests := true, laidLooks := .later }
def TreePrintsCardSaid : Prop := Claim7.holds Tryz.pinned (.plain (OpenSpec.ofChange treePrintsSpec)) treePrintsCard

/-- THE TIED CARD OF 'arguslaw02.TreeGrafts'. -/
def treeGraftsCard : Claim7 := { stood := { row := treeGraftsRow, standIns := [], harness := (true, "be313c5a280033afbaeb4c2df09cfaf086f36e58ea707771e5e6ac4d20e84f56"), looks := true }, kinds := [], alts := [], laidByText := true, laidKinds := [.data, .data, .data, .sentinel, .sentinel, .listed, .data], laidTests := true, laidLooks := .later }
def TreeGraftsCardSaid : Prop := Claim7.holds Tryz.pinned (.plain (OpenSpec.ofChange treeGraftsSpec)) treeGraftsCard

/-- THE TIED CARD OF 'arguslaw02.TreeMemory'. -/
def treeMemoryCard : Claim7 := { stood := { row := treeMemoryRow, standIns := [], harness := (true, "be313c5a280033afbaeb4c2df09cfaf086f36e58ea707771e5e6ac4d20e84f56"), looks := true }, kinds := [], alts := [], laidByText := true, laidKinds := [.data, .data, .data, .sentinel, .sentinel, .listed, .data], laidTests := true, laidLooks := .later }
def TreeMemoryCardSaid : Prop := Claim7.holds Tryz.pinned (.plain (OpenSpec.ofChange treeMemorySpec)) treeMemoryCard

/-- THE TIED CARD OF 'arguslaw02.TreeNodes'. -/
def treeNodesCard : Claim7 := { stood := { row := treeNodesRow, standIns := [], harness := (true, "be313c5a280033afbaeb4c2df09cfaf086f36e58ea707771e5e6ac4d20e84f56"), looks := true }, kinds := [], alts := [], laidByText := true, laidKinds := [.data, .data, .data, .sentinel, .sentinel, .listed, .data], laidTests := true, laidLooks := .later }
def TreeNodesCardSaid : Prop := Claim7.holds Tryz.pinned (.plain (OpenSpec.ofChange treeNodesSpec)) treeNodesCard

/-- THE TIED CARD OF 'arguslaw02.TreeWhere'. -/
def treeWhereCard : Claim7 := { stood := { row := treeWhereRow, standIns := [], harness := (true, "be313c5a280033afbaeb4c2df09cfaf086f36e58ea707771e5e6ac4d20e84f56"), looks := true }, kinds := [], alts := [], laidByText := true, laidKinds := [.data, .data, .data, .data, .sentinel, .sentinel, .listed, .data, .pinned], laidTests := true, laidLooks := .later }
def TreeWhereCardSaid : Prop := Claim7.holds Tryz.pinned (.plain (OpenSpec.ofChange treeWhereSpec)) treeWhereCard

/-- THE SECOND FORM's CARD OF 'arguslaw02.TreeParses'. -/
def treeParsesUptoCard : Claim7 := { stood := { row := treeParsesUptoRow, standIns := [], harness := (true, "be313c5a280033afbaeb4c2df09cfaf086f36e58ea707771e5e6ac4d20e84f56"), looks := true }, kinds := [], alts := [], laidByText := true, laidKinds := [.data, .data, .data, .sentinel, .sentinel, .listed, .data], laidTests := true, laidLooks := .later }
def TreeParsesUptoCardSaid : Prop := Claim7.holds Tryz.pinned (.plain (OpenSpec.upto treeParsesSpec)) treeParsesUptoCard

/-- THE SECOND FORM's CARD OF 'arguslaw02.TreeTypes'. -/
def treeTypesUptoCard : Claim7 := { stood := { row := treeTypesUptoRow, standIns := [], harness := (true, "be313c5a280033afbaeb4c2df09cfaf086f36e58ea707771e5e6ac4d20e84f56"), looks := true }, kinds := [], alts := [], laidByText := true, laidKinds := [.data, .data, .data, .sentinel, .sentinel, .listed, .data], laidTests := true, laidLooks := .later }
def TreeTypesUptoCardSaid : Prop := Claim7.holds Tryz.pinned (.plain (OpenSpec.upto treeTypesSpec)) treeTypesUptoCard

/-- THE SECOND FORM's CARD OF 'arguslaw02.TreeExprs'. -/
def treeExprsUptoCard : Claim7 := { stood := { row := treeExprsUptoRow, standIns := [], harness := (true, "be313c5a280033afbaeb4c2df09cfaf086f36e58ea707771e5e6ac4d20e84f56"), looks := true }, kinds := [], alts := [], laidByText := true, laidKinds := [.data, .data, .data, .sentinel, .sentinel, .listed, .data], laidTests := true, laidLooks := .later }
def TreeExprsUptoCardSaid : Prop := Claim7.holds Tryz.pinned (.plain (OpenSpec.upto treeExprsSpec)) treeExprsUptoCard

/-- THE SECOND FORM's CARD OF 'arguslaw02.TreeSizes'. -/
def treeSizesUptoCard : Claim7 := { stood := { row := treeSizesUptoRow, standIns := [], harness := (true, "be313c5a280033afbaeb4c2df09cfaf086f36e58ea707771e5e6ac4d20e84f56"), looks := true }, kinds := [], alts := [], laidByText := true, laidKinds := [.data, .data, .data, .sentinel, .sentinel, .listed, .data], laidTests := true, laidLooks := .later }
def TreeSizesUptoCardSaid : Prop := Claim7.holds Tryz.pinned (.plain (OpenSpec.upto treeSizesSpec)) treeSizesUptoCard

/-- THE SECOND FORM's CARD OF 'arguslaw02.TreeLayout'. -/
def treeLayoutUptoCard : Claim7 := { stood := { row := treeLayoutUptoRow, standIns := [], harness := (true, "be313c5a280033afbaeb4c2df09cfaf086f36e58ea707771e5e6ac4d20e84f56"), looks := true }, kinds := [], alts := [], laidByText := true, laidKinds := [.data, .data, .data, .sentinel, .sentinel, .listed, .data], laidTests := true, laidLooks := .later }
def TreeLayoutUptoCardSaid : Prop := Claim7.holds Tryz.pinned (.plain (OpenSpec.upto treeLayoutSpec)) treeLayoutUptoCard

/-- THE SECOND FORM's CARD OF 'arguslaw02.TreeBrackets'. -/
def treeBracketsUptoCard : Claim7 := { stood := { row := treeBracketsUptoRow, standIns := [], harness := (true, "be313c5a280033afbaeb4c2df09cfaf086f36e58ea707771e5e6ac4d20e84f56"), looks := true }, kinds := [], alts := [], laidByText := true, laidKinds := [.data, .data, .data, .sentinel, .sentinel, .listed, .data], laidTests := true, laidLooks := .later }
def TreeBracketsUptoCardSaid : Prop := Claim7.holds Tryz.pinned (.plain (OpenSpec.upto treeBracketsSpec)) treeBracketsUptoCard

/-- THE SECOND FORM's CARD OF 'arguslaw02.TreePrints'. -/
def treePrintsUptoCard : Claim7 := { stood := { row := treePrintsUptoRow, standIns := [], harness := (true, "be313c5a280033afbaeb4c2df09cfaf086f36e58ea707771e5e6ac4d20e84f56"), looks := true }, kinds := [], alts := [], laidByText := true, laidKinds := [.data, .data, .data, .sentinel, .sentinel, .listed, .data], laidTests := true, laidLooks := .later }
def TreePrintsUptoCardSaid : Prop := Claim7.holds Tryz.pinned (.plain (OpenSpec.upto treePrintsSpec)) treePrintsUptoCard

/-- THE SECOND FORM's CARD OF 'arguslaw02.TreeGrafts'. -/
def treeGraftsUptoCard : Claim7 := { stood := { row := treeGraftsUptoRow, standIns := [], harness := (true, "be313c5a280033afbaeb4c2df09cfaf086f36e58ea707771e5e6ac4d20e84f56"), looks := true }, kinds := [], alts := [], laidByText := true, laidKinds := [.data, .data, .data, .sentinel, .sentinel, .listed, .data], laidTests := true, laidLooks := .later }
def TreeGraftsUptoCardSaid : Prop := Claim7.holds Tryz.pinned (.plain (OpenSpec.upto treeGraftsSpec)) treeGraftsUptoCard

/-- THE SECOND FORM's CARD OF 'arguslaw02.TreeMemory'. -/
def treeMemoryUptoCard : Claim7 := { stood := { row := treeMemoryUptoRow, standIns := [], harness := (true, "be313c5a280033afbaeb4c2df09cfaf086f36e58ea707771e5e6ac4d20e84f56"), looks := true }, kinds := [], alts := [], laidByText := true, laidKinds := [.data, .data, .data, .sentinel, .sentinel, .listed, .data], laidTests := true, laidLooks := .later }
def TreeMemoryUptoCardSaid : Prop := Claim7.holds Tryz.pinned (.plain (OpenSpec.upto treeMemorySpec)) treeMemoryUptoCard

/-- THE SECOND FORM's CARD OF 'arguslaw02.TreeNodes'. -/
def treeNodesUptoCard : Claim7 := { stood := { row := treeNodesUptoRow, standIns := [], harness := (true, "be313c5a280033afbaeb4c2df09cfaf086f36e58ea707771e5e6ac4d20e84f56"), looks := true }, kinds := [], alts := [], laidByText := true, laidKinds := [.data, .data, .data, .sentinel, .sentinel, .listed, .data], laidTests := true, laidLooks := .later }
def TreeNodesUptoCardSaid : Prop := Claim7.holds Tryz.pinned (.plain (OpenSpec.upto treeNodesSpec)) treeNodesUptoCard

/-- THE SECOND FORM's CARD OF 'arguslaw02.TreeWhere'. -/
def treeWhereUptoCard : Claim7 := { stood := { row := treeWhereUptoRow, standIns := [], harness := (true, "be313c5a280033afbaeb4c2df09cfaf086f36e58ea707771e5e6ac4d20e84f56"), looks := true }, kinds := [], alts := [], laidByText := true, laidKinds := [.data, .data, .data, .data, .sentinel, .sentinel, .listed, .data, .pinned], laidTests := true, laidLooks := .later }
def TreeWhereUptoCardSaid : Prop := Claim7.holds Tryz.pinned (.plain (OpenSpec.upto treeWhereSpec)) treeWhereUptoCard
end Rows
end Go.Proofs.YtbcmiempigoooaaGreatDoor
