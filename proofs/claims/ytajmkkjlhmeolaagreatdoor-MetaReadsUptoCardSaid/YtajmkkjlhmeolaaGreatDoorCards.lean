/-
  DERIVED. GIVEN WITH THE SEED: THE CARDS: each row of YtajmkkjlhmeolaaGreatDoorRows.lean that lists a variable, with what it lists TIED to the program's text (the seventh form; the later family's looks); each row that meets fmt, with fmt's text TOLD by the authors' own Lean function (tested against real Go, not proved from fmt's source: count such statements apart). THE CARD IS WHAT COUNTS. Prove the row's statement (the work); the ties are given (YtajmkkjlhmeolaaGreatDoorTie.lean); close each card by the builder's one call (the guide's Derived/Test/ToyasCard.lean, 'card_holds'). Laid BY PROGRAM, IN A SANDBOX (cutbox-door.mjs). By AI agents, Wed Nov 11 2026. No macro, syntax, notation, axiom, sorry.
-/
import Derived.Test.YtajmkkjlhmeolaaGreatDoorRows
import GoSem.ClaimSeven
namespace Go.Proofs.YtajmkkjlhmeolaaGreatDoor
namespace Rows

/-- THE TIED CARD OF 'storehouselaw19.MetaApart'. -/
def metaApartCard : Claim7 := { stood := { row := metaApartRow, standIns := [], harness := (true, "9b7201adf2aff546de5acd497f236a43a8e7f9c68f0cc8fc989200a519b57612"), looks := true }, kinds := [], alts := [], laidByText := true, laidKinds := [.data, .data, .data, .data, .sentinel, .sentinel, .pinned, .pinned], laidTests := true, laidLooks := .later }
def MetaApartCardSaid : Prop := Claim7.holds Tryz.pinned (.plain (OpenSpec.ofChange metaApartSpec)) metaApartCard

/-- THE TIED CARD OF 'storehouselaw19.MetaNumbers'. -/
def metaNumbersCard : Claim7 := { stood := { row := metaNumbersRow, standIns := [], harness := (true, "9b7201adf2aff546de5acd497f236a43a8e7f9c68f0cc8fc989200a519b57612"), looks := true }, kinds := [], alts := [], laidByText := true, laidKinds := [.data, .data, .data, .data, .sentinel, .sentinel, .pinned, .pinned], laidTests := true, laidLooks := .later }
def MetaNumbersCardSaid : Prop := Claim7.holds Tryz.pinned (.plain (OpenSpec.ofChange metaNumbersSpec)) metaNumbersCard

/-- THE TIED CARD OF 'storehouselaw19.MetaKeys'. -/
def metaKeysCard : Claim7 := { stood := { row := metaKeysRow, standIns := [], harness := (true, "9b7201adf2aff546de5acd497f236a43a8e7f9c68f0cc8fc989200a519b57612"), looks := true }, kinds := [], alts := [], laidByText := true, laidKinds := [.data, .data, .data, .data, .sentinel, .sentinel, .pinned, .pinned], laidTests := true, laidLooks := .later }
def MetaKeysCardSaid : Prop := Claim7.holds Tryz.pinned (.plain (OpenSpec.ofChange metaKeysSpec)) metaKeysCard

/-- THE TIED CARD OF 'storehouselaw19.MetaReads'. -/
def metaReadsCard : Claim7 := { stood := { row := metaReadsRow, standIns := [], harness := (true, "9b7201adf2aff546de5acd497f236a43a8e7f9c68f0cc8fc989200a519b57612"), looks := true }, kinds := [], alts := [], laidByText := true, laidKinds := [.data, .data, .data, .data, .sentinel, .sentinel, .pinned, .pinned], laidTests := true, laidLooks := .later }
def MetaReadsCardSaid : Prop := Claim7.holds Tryz.pinned (.plain (OpenSpec.ofChange metaReadsSpec)) metaReadsCard

/-- THE TIED CARD OF 'storehouselaw19.MetaBack'. -/
def metaBackCard : Claim7 := { stood := { row := metaBackRow, standIns := [], harness := (true, "9b7201adf2aff546de5acd497f236a43a8e7f9c68f0cc8fc989200a519b57612"), looks := true }, kinds := [], alts := [], laidByText := true, laidKinds := [.data, .data, .data, .data, .sentinel, .sentinel, .pinned, .pinned], laidTests := true, laidLooks := .later }
def MetaBackCardSaid : Prop := Claim7.holds Tryz.pinned (.plain (OpenSpec.ofChange metaBackSpec)) metaBackCard

/-- THE TIED CARD OF 'storehouselaw19.MetaWrites'. -/
def metaWritesCard : Claim7 := { stood := { row := metaWritesRow, standIns := [], harness := (true, "9b7201adf2aff546de5acd497f236a43a8e7f9c68f0cc8fc989200a519b57612"), looks := true }, kinds := [], alts := [], laidByText := true, laidKinds := [.data, .data, .data, .data, .sentinel, .sentinel, .pinned, .pinned], laidTests := true, laidLooks := .later }
def MetaWritesCardSaid : Prop := Claim7.holds Tryz.pinned (.plain (OpenSpec.ofChange metaWritesSpec)) metaWritesCard

/-- THE SECOND FORM's CARD OF 'storehouselaw19.MetaApart'. -/
def metaApartUptoCard : Claim7 := { stood := { row := metaApartUptoRow, standIns := [], harness := (true, "9b7201adf2aff546de5acd497f236a43a8e7f9c68f0cc8fc989200a519b57612"), looks := true }, kinds := [], alts := [], laidByText := true, laidKinds := [.data, .data, .data, .data, .sentinel, .sentinel, .pinned, .pinned], laidTests := true, laidLooks := .later }
def MetaApartUptoCardSaid : Prop := Claim7.holds Tryz.pinned (.plain (OpenSpec.upto metaApartSpec)) metaApartUptoCard

/-- THE SECOND FORM's CARD OF 'storehouselaw19.MetaNumbers'. -/
def metaNumbersUptoCard : Claim7 := { stood := { row := metaNumbersUptoRow, standIns := [], harness := (true, "9b7201adf2aff546de5acd497f236a43a8e7f9c68f0cc8fc989200a519b57612"), looks := true }, kinds := [], alts := [], laidByText := true, laidKinds := [.data, .data, .data, .data, .sentinel, .sentinel, .pinned, .pinned], laidTests := true, laidLooks := .later }
def MetaNumbersUptoCardSaid : Prop := Claim7.holds Tryz.pinned (.plain (OpenSpec.upto metaNumbersSpec)) metaNumbersUptoCard

/-- THE SECOND FORM's CARD OF 'storehouselaw19.MetaKeys'. -/
def metaKeysUptoCard : Claim7 := { stood := { row := metaKeysUptoRow, standIns := [], harness := (true, "9b7201adf2aff546de5acd497f236a43a8e7f9c68f0cc8fc989200a519b57612"), looks := true }, kinds := [], alts := [], laidByText := true, laidKinds := [.data, .data, .data, .data, .sentinel, .sentinel, .pinned, .pinned], laidTests := true, laidLooks := .later }
def MetaKeysUptoCardSaid : Prop := Claim7.holds Tryz.pinned (.plain (OpenSpec.upto metaKeysSpec)) metaKeysUptoCard

/-- THE SECOND FORM's CARD OF 'storehouselaw19.MetaReads'. -/
def metaReadsUptoCard : Claim7 := { stood := { row := metaReadsUptoRow, standIns := [], harness := (true, "9b7201adf2aff546de5acd497f236a43a8e7f9c68f0cc8fc989200a519b57612"), looks := true }, kinds := [], alts := [], laidByText := true, laidKinds := [.data, .data, .data, .data, .sentinel, .sentinel, .pinned, .pinned], laidTests := true, laidLooks := .later }
def MetaReadsUptoCardSaid : Prop := Claim7.holds Tryz.pinned (.plain (OpenSpec.upto metaReadsSpec)) metaReadsUptoCard

/-- THE SECOND FORM's CARD OF 'storehouselaw19.MetaBack'. -/
def metaBackUptoCard : Claim7 := { stood := { row := metaBackUptoRow, standIns := [], harness := (true, "9b7201adf2aff546de5acd497f236a43a8e7f9c68f0cc8fc989200a519b57612"), looks := true }, kinds := [], alts := [], laidByText := true, laidKinds := [.data, .data, .data, .data, .sentinel, .sentinel, .pinned, .pinned], laidTests := true, laidLooks := .later }
def MetaBackUptoCardSaid : Prop := Claim7.holds Tryz.pinned (.plain (OpenSpec.upto metaBackSpec)) metaBackUptoCard

/-- THE SECOND FORM's CARD OF 'storehouselaw19.MetaWrites'. -/
def metaWritesUptoCard : Claim7 := { stood := { row := metaWritesUptoRow, standIns := [], harness := (true, "9b7201adf2aff546de5acd497f236a43a8e7f9c68f0cc8fc989200a519b57612"), looks := true }, kinds := [], alts := [], laidByText := true, laidKinds := [.data, .data, .data, .data, .sentinel, .sentinel, .pinned, .pinned], laidTests := true, laidLooks := .later }
def MetaWritesUptoCardSaid : Prop := Claim7.holds Tryz.pinned (.plain (OpenSpec.upto metaWritesSpec)) metaWritesUptoCard
end Rows
end Go.Proofs.YtajmkkjlhmeolaaGreatDoor
