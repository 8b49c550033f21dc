/-
  DERIVED. GIVEN WITH THE SEED: THE CARDS: each row of YtgmgghbocidibaaGreatDoorRows.lean that lists a variable, with what it lists TIED to the program's text (the seventh form; the later family's looks); each row that meets fmt, with fmt's text TOLD by the authors' own Lean function (tested against real Go, not proved from fmt's source: count such statements apart). THE CARD IS WHAT COUNTS. Prove the row's statement (the work); the ties are given (YtgmgghbocidibaaGreatDoorTie.lean); close each card by the builder's one call (the guide's Derived/Test/ToyasCard.lean, 'card_holds'). Laid BY PROGRAM, IN A SANDBOX (cutbox-door.mjs). By AI agents, Wed Nov 11 2026. No macro, syntax, notation, axiom, sorry.
-/
import Derived.Test.YtgmgghbocidibaaGreatDoorRows
import GoSem.ClaimSeven
namespace Go.Proofs.YtgmgghbocidibaaGreatDoor
namespace Rows

/-- THE TIED CARD OF 'storehouselaw15.XmlBack'. -/
def xmlBackCard : Claim7 := { stood := { row := xmlBackRow, standIns := [], harness := (true, "4383cb7e839a8a233010e073c8754b927ffea609271b1ff4df541c0bd6288987"), looks := true }, kinds := [], alts := [], laidByText := true, laidKinds := [.data, .data, .data, .data, .sentinel, .sentinel, .pinned], laidTests := true, laidLooks := .later }
def XmlBackCardSaid : Prop := Claim7.holds Tryz.pinned (.plain (OpenSpec.ofChange xmlBackSpec)) xmlBackCard

/-- THE TIED CARD OF 'storehouselaw15.XmlTexts'. -/
def xmlTextsCard : Claim7 := { stood := { row := xmlTextsRow, standIns := [], harness := (true, "4383cb7e839a8a233010e073c8754b927ffea609271b1ff4df541c0bd6288987"), looks := true }, kinds := [], alts := [], laidByText := true, laidKinds := [.data, .data, .data, .data, .sentinel, .sentinel, .pinned], laidTests := true, laidLooks := .later }
def XmlTextsCardSaid : Prop := Claim7.holds Tryz.pinned (.plain (OpenSpec.ofChange xmlTextsSpec)) xmlTextsCard

/-- THE TIED CARD OF 'storehouselaw15.XmlHeads'. -/
def xmlHeadsCard : Claim7 := { stood := { row := xmlHeadsRow, standIns := [], harness := (true, "4383cb7e839a8a233010e073c8754b927ffea609271b1ff4df541c0bd6288987"), looks := true }, kinds := [], alts := [], laidByText := true, laidKinds := [.data, .data, .data, .data, .sentinel, .sentinel, .pinned], laidTests := true, laidLooks := .later }
def XmlHeadsCardSaid : Prop := Claim7.holds Tryz.pinned (.plain (OpenSpec.ofChange xmlHeadsSpec)) xmlHeadsCard

/-- THE TIED CARD OF 'storehouselaw15.XmlWrites'. -/
def xmlWritesCard : Claim7 := { stood := { row := xmlWritesRow, standIns := [], harness := (true, "4383cb7e839a8a233010e073c8754b927ffea609271b1ff4df541c0bd6288987"), looks := true }, kinds := [], alts := [], laidByText := true, laidKinds := [.data, .data, .data, .data, .sentinel, .sentinel, .pinned], laidTests := true, laidLooks := .later }
def XmlWritesCardSaid : Prop := Claim7.holds Tryz.pinned (.plain (OpenSpec.ofChange xmlWritesSpec)) xmlWritesCard

/-- THE SECOND FORM's CARD OF 'storehouselaw15.XmlBack'. -/
def xmlBackUptoCard : Claim7 := { stood := { row := xmlBackUptoRow, standIns := [], harness := (true, "4383cb7e839a8a233010e073c8754b927ffea609271b1ff4df541c0bd6288987"), looks := true }, kinds := [], alts := [], laidByText := true, laidKinds := [.data, .data, .data, .data, .sentinel, .sentinel, .pinned], laidTests := true, laidLooks := .later }
def XmlBackUptoCardSaid : Prop := Claim7.holds Tryz.pinned (.plain (OpenSpec.upto xmlBackSpec)) xmlBackUptoCard

/-- THE SECOND FORM's CARD OF 'storehouselaw15.XmlTexts'. -/
def xmlTextsUptoCard : Claim7 := { stood := { row := xmlTextsUptoRow, standIns := [], harness := (true, "4383cb7e839a8a233010e073c8754b927ffea609271b1ff4df541c0bd6288987"), looks := true }, kinds := [], alts := [], laidByText := true, laidKinds := [.data, .data, .data, .data, .sentinel, .sentinel, .pinned], laidTests := true, laidLooks := .later }
def XmlTextsUptoCardSaid : Prop := Claim7.holds Tryz.pinned (.plain (OpenSpec.upto xmlTextsSpec)) xmlTextsUptoCard

/-- THE SECOND FORM's CARD OF 'storehouselaw15.XmlHeads'. -/
def xmlHeadsUptoCard : Claim7 := { stood := { row := xmlHeadsUptoRow, standIns := [], harness := (true, "4383cb7e839a8a233010e073c8754b927ffea609271b1ff4df541c0bd6288987"), looks := true }, kinds := [], alts := [], laidByText := true, laidKinds := [.data, .data, .data, .data, .sentinel, .sentinel, .pinned], laidTests := true, laidLooks := .later }
def XmlHeadsUptoCardSaid : Prop := Claim7.holds Tryz.pinned (.plain (OpenSpec.upto xmlHeadsSpec)) xmlHeadsUptoCard

/-- THE SECOND FORM's CARD OF 'storehouselaw15.XmlWrites'. -/
def xmlWritesUptoCard : Claim7 := { stood := { row := xmlWritesUptoRow, standIns := [], harness := (true, "4383cb7e839a8a233010e073c8754b927ffea609271b1ff4df541c0bd6288987"), looks := true }, kinds := [], alts := [], laidByText := true, laidKinds := [.data, .data, .data, .data, .sentinel, .sentinel, .pinned], laidTests := true, laidLooks := .later }
def XmlWritesUptoCardSaid : Prop := Claim7.holds Tryz.pinned (.plain (OpenSpec.upto xmlWritesSpec)) xmlWritesUptoCard
end Rows
end Go.Proofs.YtgmgghbocidibaaGreatDoor
