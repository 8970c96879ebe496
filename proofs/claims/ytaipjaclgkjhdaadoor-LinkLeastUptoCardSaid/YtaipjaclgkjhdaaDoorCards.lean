/-
  DERIVED. GIVEN WITH THE SEED: THE CARDS: each row of YtaipjaclgkjhdaaDoorRows.lean that lists a variable, with what it lists TIED to the program's text (the seventh form; the later family's looks); each row that meets fmt, with fmt's text TOLD by the authors' own Lean function (tested against real Go, not proved from fmt's source: count such statements apart). THE CARD IS WHAT COUNTS. Prove the row's statement (the work); the ties are given (YtaipjaclgkjhdaaDoorTie.lean); close each card by the builder's one call (the guide's Derived/Test/ToyasCard.lean, 'card_holds'). Laid BY PROGRAM, IN A SANDBOX (cutbox-door.mjs). By AI agents, Wed Nov 11 2026. No macro, syntax, notation, axiom, sorry.
-/
import Derived.Test.YtaipjaclgkjhdaaDoorRows
import GoSem.ClaimSeven
namespace Go.Proofs.YtaipjaclgkjhdaaDoor
namespace Rows

/-- THE TIED CARD OF 'arguslaw16.LinkImages'. -/
def linkImagesCard : Claim7 := { stood := { row := linkImagesRow, standIns := [], harness := (true, "662e19e96dc65c53bf185532fef2173a406e3440e0ef170561399511e1b95406"), looks := true }, kinds := [], alts := [], laidByText := true, laidKinds := [.sentinel], laidTests := true, laidLooks := .later }
def LinkImagesCardSaid : Prop := Claim7.holds Tryd.pinned (.plain (OpenSpec.ofChange linkImagesSpec)) linkImagesCard

/-- THE TIED CARD OF 'arguslaw16.LinkBytes'. -/
def linkBytesCard : Claim7 := { stood := { row := linkBytesRow, standIns := [], harness := (true, "662e19e96dc65c53bf185532fef2173a406e3440e0ef170561399511e1b95406"), looks := true }, kinds := [], alts := [], laidByText := true, laidKinds := [.sentinel], laidTests := true, laidLooks := .later }
def LinkBytesCardSaid : Prop := Claim7.holds Tryd.pinned (.plain (OpenSpec.ofChange linkBytesSpec)) linkBytesCard

/-- THE TIED CARD OF 'arguslaw16.LinkOrders'. -/
def linkOrdersCard : Claim7 := { stood := { row := linkOrdersRow, standIns := [], harness := (true, "662e19e96dc65c53bf185532fef2173a406e3440e0ef170561399511e1b95406"), looks := true }, kinds := [], alts := [], laidByText := true, laidKinds := [.sentinel], laidTests := true, laidLooks := .later }
def LinkOrdersCardSaid : Prop := Claim7.holds Tryd.pinned (.plain (OpenSpec.ofChange linkOrdersSpec)) linkOrdersCard

/-- THE TIED CARD OF 'arguslaw16.LinkPlaces'. -/
def linkPlacesCard : Claim7 := { stood := { row := linkPlacesRow, standIns := [], harness := (true, "662e19e96dc65c53bf185532fef2173a406e3440e0ef170561399511e1b95406"), looks := true }, kinds := [], alts := [], laidByText := true, laidKinds := [.sentinel], laidTests := true, laidLooks := .later }
def LinkPlacesCardSaid : Prop := Claim7.holds Tryd.pinned (.plain (OpenSpec.ofChange linkPlacesSpec)) linkPlacesCard

/-- THE TIED CARD OF 'arguslaw16.LinkNames'. -/
def linkNamesCard : Claim7 := { stood := { row := linkNamesRow, standIns := [], harness := (true, "662e19e96dc65c53bf185532fef2173a406e3440e0ef170561399511e1b95406"), looks := true }, kinds := [], alts := [], laidByText := true, laidKinds := [.sentinel], laidTests := true, laidLooks := .later }
def LinkNamesCardSaid : Prop := Claim7.holds Tryd.pinned (.plain (OpenSpec.ofChange linkNamesSpec)) linkNamesCard

/-- THE TIED CARD OF 'arguslaw16.LinkMemory'. -/
def linkMemoryCard : Claim7 := { stood := { row := linkMemoryRow, standIns := [], harness := (true, "662e19e96dc65c53bf185532fef2173a406e3440e0ef170561399511e1b95406"), looks := true }, kinds := [], alts := [], laidByText := true, laidKinds := [.sentinel], laidTests := true, laidLooks := .later }
def LinkMemoryCardSaid : Prop := Claim7.holds Tryd.pinned (.plain (OpenSpec.ofChange linkMemorySpec)) linkMemoryCard

/-- THE TIED CARD OF 'arguslaw16.LinkReaches'. -/
def linkReachesCard : Claim7 := { stood := { row := linkReachesRow, standIns := [], harness := (true, "662e19e96dc65c53bf185532fef2173a406e3440e0ef170561399511e1b95406"), looks := true }, kinds := [], alts := [], laidByText := true, laidKinds := [.sentinel], laidTests := true, laidLooks := .later }
def LinkReachesCardSaid : Prop := Claim7.holds Tryd.pinned (.plain (OpenSpec.ofChange linkReachesSpec)) linkReachesCard

/-- THE TIED CARD OF 'arguslaw16.LinkLeast'. -/
def linkLeastCard : Claim7 := { stood := { row := linkLeastRow, standIns := [], harness := (true, "662e19e96dc65c53bf185532fef2173a406e3440e0ef170561399511e1b95406"), looks := true }, kinds := [], alts := [], laidByText := true, laidKinds := [.sentinel], laidTests := true, laidLooks := .later }
def LinkLeastCardSaid : Prop := Claim7.holds Tryd.pinned (.plain (OpenSpec.ofChange linkLeastSpec)) linkLeastCard

/-- THE TIED CARD OF 'arguslaw16.LinkChecks'. -/
def linkChecksCard : Claim7 := { stood := { row := linkChecksRow, standIns := [], harness := (true, "662e19e96dc65c53bf185532fef2173a406e3440e0ef170561399511e1b95406"), looks := true }, kinds := [], alts := [], laidByText := true, laidKinds := [.sentinel], laidTests := true, laidLooks := .later }
def LinkChecksCardSaid : Prop := Claim7.holds Tryd.pinned (.plain (OpenSpec.ofChange linkChecksSpec)) linkChecksCard

/-- THE TIED CARD OF 'arguslaw16.LinkLinks'. -/
def linkLinksCard : Claim7 := { stood := { row := linkLinksRow, standIns := [], harness := (true, "662e19e96dc65c53bf185532fef2173a406e3440e0ef170561399511e1b95406"), looks := true }, kinds := [], alts := [], laidByText := true, laidKinds := [.sentinel], laidTests := true, laidLooks := .later }
def LinkLinksCardSaid : Prop := Claim7.holds Tryd.pinned (.plain (OpenSpec.ofChange linkLinksSpec)) linkLinksCard

/-- THE SECOND FORM's CARD OF 'arguslaw16.LinkImages'. -/
def linkImagesUptoCard : Claim7 := { stood := { row := linkImagesUptoRow, standIns := [], harness := (true, "662e19e96dc65c53bf185532fef2173a406e3440e0ef170561399511e1b95406"), looks := true }, kinds := [], alts := [], laidByText := true, laidKinds := [.sentinel], laidTests := true, laidLooks := .later }
def LinkImagesUptoCardSaid : Prop := Claim7.holds Tryd.pinned (.plain (OpenSpec.upto linkImagesSpec)) linkImagesUptoCard

/-- THE SECOND FORM's CARD OF 'arguslaw16.LinkBytes'. -/
def linkBytesUptoCard : Claim7 := { stood := { row := linkBytesUptoRow, standIns := [], harness := (true, "662e19e96dc65c53bf185532fef2173a406e3440e0ef170561399511e1b95406"), looks := true }, kinds := [], alts := [], laidByText := true, laidKinds := [.sentinel], laidTests := true, laidLooks := .later }
def LinkBytesUptoCardSaid : Prop := Claim7.holds Tryd.pinned (.plain (OpenSpec.upto linkBytesSpec)) linkBytesUptoCard

/-- THE SECOND FORM's CARD OF 'arguslaw16.LinkOrders'. -/
def linkOrdersUptoCard : Claim7 := { stood := { row := linkOrdersUptoRow, standIns := [], harness := (true, "662e19e96dc65c53bf185532fef2173a406e3440e0ef170561399511e1b95406"), looks := true }, kinds := [], alts := [], laidByText := true, laidKinds := [.sentinel], laidTests := true, laidLooks := .later }
def LinkOrdersUptoCardSaid : Prop := Claim7.holds Tryd.pinned (.plain (OpenSpec.upto linkOrdersSpec)) linkOrdersUptoCard

/-- THE SECOND FORM's CARD OF 'arguslaw16.LinkPlaces'. -/
def linkPlacesUptoCard : Claim7 := { stood := { row := linkPlacesUptoRow, standIns := [], harness := (true, "662e19e96dc65c53bf185532fef2173a406e3440e0ef170561399511e1b95406"), looks := true }, kinds := [], alts := [], laidByText := true, laidKinds := [.sentinel], laidTests := true, laidLooks := .later }
def LinkPlacesUptoCardSaid : Prop := Claim7.holds Tryd.pinned (.plain (OpenSpec.upto linkPlacesSpec)) linkPlacesUptoCard

/-- THE SECOND FORM's CARD OF 'arguslaw16.LinkNames'. -/
def linkNamesUptoCard : Claim7 := { stood := { row := linkNamesUptoRow, standIns := [], harness := (true, "662e19e96dc65c53bf185532fef2173a406e3440e0ef170561399511e1b95406"), looks := true }, kinds := [], alts := [], laidByText := true, laidKinds := [.sentinel], laidTests := true, laidLooks := .later }
def LinkNamesUptoCardSaid : Prop := Claim7.holds Tryd.pinned (.plain (OpenSpec.upto linkNamesSpec)) linkNamesUptoCard

/-- THE SECOND FORM's CARD OF 'arguslaw16.LinkMemory'. -/
def linkMemoryUptoCard : Claim7 := { stood := { row := linkMemoryUptoRow, standIns := [], harness := (true, "662e19e96dc65c53bf185532fef2173a406e3440e0ef170561399511e1b95406"), looks := true }, kinds := [], alts := [], laidByText := true, laidKinds := [.sentinel], laidTests := true, laidLooks := .later }
def LinkMemoryUptoCardSaid : Prop := Claim7.holds Tryd.pinned (.plain (OpenSpec.upto linkMemorySpec)) linkMemoryUptoCard

/-- THE SECOND FORM's CARD OF 'arguslaw16.LinkReaches'. -/
def linkReachesUptoCard : Claim7 := { stood := { row := linkReachesUptoRow, standIns := [], harness := (true, "662e19e96dc65c53bf185532fef2173a406e3440e0ef170561399511e1b95406"), looks := true }, kinds := [], alts := [], laidByText := true, laidKinds := [.sentinel], laidTests := true, laidLooks := .later }
def LinkReachesUptoCardSaid : Prop := Claim7.holds Tryd.pinned (.plain (OpenSpec.upto linkReachesSpec)) linkReachesUptoCard

/-- THE SECOND FORM's CARD OF 'arguslaw16.LinkLeast'. -/
def linkLeastUptoCard : Claim7 := { stood := { row := linkLeastUptoRow, standIns := [], harness := (true, "662e19e96dc65c53bf185532fef2173a406e3440e0ef170561399511e1b95406"), looks := true }, kinds := [], alts := [], laidByText := true, laidKinds := [.sentinel], laidTests := true, laidLooks := .later }
def LinkLeastUptoCardSaid : Prop := Claim7.holds Tryd.pinned (.plain (OpenSpec.upto linkLeastSpec)) linkLeastUptoCard

/-- THE SECOND FORM's CARD OF 'arguslaw16.LinkChecks'. -/
def linkChecksUptoCard : Claim7 := { stood := { row := linkChecksUptoRow, standIns := [], harness := (true, "662e19e96dc65c53bf185532fef2173a406e3440e0ef170561399511e1b95406"), looks := true }, kinds := [], alts := [], laidByText := true, laidKinds := [.sentinel], laidTests := true, laidLooks := .later }
def LinkChecksUptoCardSaid : Prop := Claim7.holds Tryd.pinned (.plain (OpenSpec.upto linkChecksSpec)) linkChecksUptoCard

/-- THE SECOND FORM's CARD OF 'arguslaw16.LinkLinks'. -/
def linkLinksUptoCard : Claim7 := { stood := { row := linkLinksUptoRow, standIns := [], harness := (true, "662e19e96dc65c53bf185532fef2173a406e3440e0ef170561399511e1b95406"), looks := true }, kinds := [], alts := [], laidByText := true, laidKinds := [.sentinel], laidTests := true, laidLooks := .later }
def LinkLinksUptoCardSaid : Prop := Claim7.holds Tryd.pinned (.plain (OpenSpec.upto linkLinksSpec)) linkLinksUptoCard
end Rows
end Go.Proofs.YtaipjaclgkjhdaaDoor
