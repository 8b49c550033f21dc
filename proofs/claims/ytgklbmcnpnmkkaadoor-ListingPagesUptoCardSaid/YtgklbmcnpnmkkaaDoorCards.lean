/-
  DERIVED. GIVEN WITH THE SEED: THE CARDS: each row of YtgklbmcnpnmkkaaDoorRows.lean that lists a variable, with what it lists TIED to the program's text (the seventh form; the later family's looks); each row that meets fmt, with fmt's text TOLD by the authors' own Lean function (tested against real Go, not proved from fmt's source: count such statements apart). THE CARD IS WHAT COUNTS. Prove the row's statement (the work); the ties are given (YtgklbmcnpnmkkaaDoorTie.lean); close each card by the builder's one call (the guide's Derived/Test/ToyasCard.lean, 'card_holds'). Laid BY PROGRAM, IN A SANDBOX (cutbox-door.mjs). By AI agents, Wed Nov 11 2026. No macro, syntax, notation, axiom, sorry.
-/
import Derived.Test.YtgklbmcnpnmkkaaDoorRows
import GoSem.ClaimSeven
namespace Go.Proofs.YtgklbmcnpnmkkaaDoor
namespace Rows

/-- THE TIED CARD OF 'storehouselaw20.ListingWhole'. -/
def listingWholeCard : Claim7 := { stood := { row := listingWholeRow, standIns := [], harness := (true, "a1fe01cd8d902d26cd4277193b3ae296279b519dd0db05ddb8edfda0ec3080a6"), looks := true }, kinds := [], alts := [], laidByText := true, laidKinds := [.data, .data, .data, .sentinel, .sentinel], laidTests := true, laidLooks := .later }
def ListingWholeCardSaid : Prop := Claim7.holds Tryd.pinned (.plain (OpenSpec.ofChange listingWholeSpec)) listingWholeCard

/-- THE TIED CARD OF 'storehouselaw20.ListingRises'. -/
def listingRisesCard : Claim7 := { stood := { row := listingRisesRow, standIns := [], harness := (true, "a1fe01cd8d902d26cd4277193b3ae296279b519dd0db05ddb8edfda0ec3080a6"), looks := true }, kinds := [], alts := [], laidByText := true, laidKinds := [.data, .data, .data, .sentinel, .sentinel], laidTests := true, laidLooks := .later }
def ListingRisesCardSaid : Prop := Claim7.holds Tryd.pinned (.plain (OpenSpec.ofChange listingRisesSpec)) listingRisesCard

/-- THE TIED CARD OF 'storehouselaw20.ListingAlone'. -/
def listingAloneCard : Claim7 := { stood := { row := listingAloneRow, standIns := [], harness := (true, "a1fe01cd8d902d26cd4277193b3ae296279b519dd0db05ddb8edfda0ec3080a6"), looks := true }, kinds := [], alts := [], laidByText := true, laidKinds := [.data, .data, .data, .sentinel, .sentinel], laidTests := true, laidLooks := .later }
def ListingAloneCardSaid : Prop := Claim7.holds Tryd.pinned (.plain (OpenSpec.ofChange listingAloneSpec)) listingAloneCard

/-- THE TIED CARD OF 'storehouselaw20.ListingTokens'. -/
def listingTokensCard : Claim7 := { stood := { row := listingTokensRow, standIns := [], harness := (true, "a1fe01cd8d902d26cd4277193b3ae296279b519dd0db05ddb8edfda0ec3080a6"), looks := true }, kinds := [], alts := [], laidByText := true, laidKinds := [.data, .data, .data, .sentinel, .sentinel], laidTests := true, laidLooks := .later }
def ListingTokensCardSaid : Prop := Claim7.holds Tryd.pinned (.plain (OpenSpec.ofChange listingTokensSpec)) listingTokensCard

/-- THE TIED CARD OF 'storehouselaw20.ListingPages'. -/
def listingPagesCard : Claim7 := { stood := { row := listingPagesRow, standIns := [], harness := (true, "a1fe01cd8d902d26cd4277193b3ae296279b519dd0db05ddb8edfda0ec3080a6"), looks := true }, kinds := [], alts := [], laidByText := true, laidKinds := [.data, .data, .data, .sentinel, .sentinel], laidTests := true, laidLooks := .later }
def ListingPagesCardSaid : Prop := Claim7.holds Tryd.pinned (.plain (OpenSpec.ofChange listingPagesSpec)) listingPagesCard

/-- THE SECOND FORM's CARD OF 'storehouselaw20.ListingWhole'. -/
def listingWholeUptoCard : Claim7 := { stood := { row := listingWholeUptoRow, standIns := [], harness := (true, "a1fe01cd8d902d26cd4277193b3ae296279b519dd0db05ddb8edfda0ec3080a6"), looks := true }, kinds := [], alts := [], laidByText := true, laidKinds := [.data, .data, .data, .sentinel, .sentinel], laidTests := true, laidLooks := .later }
def ListingWholeUptoCardSaid : Prop := Claim7.holds Tryd.pinned (.plain (OpenSpec.upto listingWholeSpec)) listingWholeUptoCard

/-- THE SECOND FORM's CARD OF 'storehouselaw20.ListingRises'. -/
def listingRisesUptoCard : Claim7 := { stood := { row := listingRisesUptoRow, standIns := [], harness := (true, "a1fe01cd8d902d26cd4277193b3ae296279b519dd0db05ddb8edfda0ec3080a6"), looks := true }, kinds := [], alts := [], laidByText := true, laidKinds := [.data, .data, .data, .sentinel, .sentinel], laidTests := true, laidLooks := .later }
def ListingRisesUptoCardSaid : Prop := Claim7.holds Tryd.pinned (.plain (OpenSpec.upto listingRisesSpec)) listingRisesUptoCard

/-- THE SECOND FORM's CARD OF 'storehouselaw20.ListingAlone'. -/
def listingAloneUptoCard : Claim7 := { stood := { row := listingAloneUptoRow, standIns := [], harness := (true, "a1fe01cd8d902d26cd4277193b3ae296279b519dd0db05ddb8edfda0ec3080a6"), looks := true }, kinds := [], alts := [], laidByText := true, laidKinds := [.data, .data, .data, .sentinel, .sentinel], laidTests := true, laidLooks := .later }
def ListingAloneUptoCardSaid : Prop := Claim7.holds Tryd.pinned (.plain (OpenSpec.upto listingAloneSpec)) listingAloneUptoCard

/-- THE SECOND FORM's CARD OF 'storehouselaw20.ListingTokens'. -/
def listingTokensUptoCard : Claim7 := { stood := { row := listingTokensUptoRow, standIns := [], harness := (true, "a1fe01cd8d902d26cd4277193b3ae296279b519dd0db05ddb8edfda0ec3080a6"), looks := true }, kinds := [], alts := [], laidByText := true, laidKinds := [.data, .data, .data, .sentinel, .sentinel], laidTests := true, laidLooks := .later }
def ListingTokensUptoCardSaid : Prop := Claim7.holds Tryd.pinned (.plain (OpenSpec.upto listingTokensSpec)) listingTokensUptoCard

/-- THE SECOND FORM's CARD OF 'storehouselaw20.ListingPages'. -/
def listingPagesUptoCard : Claim7 := { stood := { row := listingPagesUptoRow, standIns := [], harness := (true, "a1fe01cd8d902d26cd4277193b3ae296279b519dd0db05ddb8edfda0ec3080a6"), looks := true }, kinds := [], alts := [], laidByText := true, laidKinds := [.data, .data, .data, .sentinel, .sentinel], laidTests := true, laidLooks := .later }
def ListingPagesUptoCardSaid : Prop := Claim7.holds Tryd.pinned (.plain (OpenSpec.upto listingPagesSpec)) listingPagesUptoCard
end Rows
end Go.Proofs.YtgklbmcnpnmkkaaDoor
