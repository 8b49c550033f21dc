/-
  DERIVED. GIVEN WITH THE SEED: THE CARDS: each row of YtnnfcbebjbfkoaaDoorRows.lean that lists a variable, with what it lists TIED to the program's text (the seventh form; the later family's looks); each row that meets fmt, with fmt's text TOLD by the authors' own Lean function (tested against real Go, not proved from fmt's source: count such statements apart). THE CARD IS WHAT COUNTS. Prove the row's statement (the work); the ties are given (YtnnfcbebjbfkoaaDoorTie.lean); close each card by the builder's one call (the guide's Derived/Test/ToyasCard.lean, 'card_holds'). Laid BY PROGRAM, IN A SANDBOX (cutbox-door.mjs). By AI agents, Wed Nov 11 2026. No macro, syntax, notation, axiom, sorry.
-/
import Derived.Test.YtnnfcbebjbfkoaaDoorRows
import GoSem.ClaimSeven
namespace Go.Proofs.YtnnfcbebjbfkoaaDoor
namespace Rows

/-- THE TIED CARD OF 'storehouselaw22.CycleBack'. -/
def cycleBackCard : Claim7 := { stood := { row := cycleBackRow, standIns := [], harness := (true, "57efcbd8008257d17103ff15e7af5e7ee88cd52238626ace9dc6598c9678fd7e"), looks := true }, kinds := [], alts := [], laidByText := true, laidKinds := [.data, .data, .data, .sentinel, .sentinel], laidTests := true, laidLooks := .later }
def CycleBackCardSaid : Prop := Claim7.holds Tryd.pinned (.plain (OpenSpec.ofChange cycleBackSpec)) cycleBackCard

/-- THE TIED CARD OF 'storehouselaw22.CycleLater'. -/
def cycleLaterCard : Claim7 := { stood := { row := cycleLaterRow, standIns := [], harness := (true, "57efcbd8008257d17103ff15e7af5e7ee88cd52238626ace9dc6598c9678fd7e"), looks := true }, kinds := [], alts := [], laidByText := true, laidKinds := [.data, .data, .data, .sentinel, .sentinel], laidTests := true, laidLooks := .later }
def CycleLaterCardSaid : Prop := Claim7.holds Tryd.pinned (.plain (OpenSpec.ofChange cycleLaterSpec)) cycleLaterCard

/-- THE TIED CARD OF 'storehouselaw22.CycleOff'. -/
def cycleOffCard : Claim7 := { stood := { row := cycleOffRow, standIns := [], harness := (true, "57efcbd8008257d17103ff15e7af5e7ee88cd52238626ace9dc6598c9678fd7e"), looks := true }, kinds := [], alts := [], laidByText := true, laidKinds := [.data, .data, .data, .sentinel, .sentinel], laidTests := true, laidLooks := .later }
def CycleOffCardSaid : Prop := Claim7.holds Tryd.pinned (.plain (OpenSpec.ofChange cycleOffSpec)) cycleOffCard

/-- THE TIED CARD OF 'storehouselaw22.CycleReads'. -/
def cycleReadsCard : Claim7 := { stood := { row := cycleReadsRow, standIns := [], harness := (true, "57efcbd8008257d17103ff15e7af5e7ee88cd52238626ace9dc6598c9678fd7e"), looks := true }, kinds := [], alts := [], laidByText := true, laidKinds := [.data, .data, .data, .sentinel, .sentinel], laidTests := true, laidLooks := .later }
def CycleReadsCardSaid : Prop := Claim7.holds Tryd.pinned (.plain (OpenSpec.ofChange cycleReadsSpec)) cycleReadsCard

/-- THE SECOND FORM's CARD OF 'storehouselaw22.CycleBack'. -/
def cycleBackUptoCard : Claim7 := { stood := { row := cycleBackUptoRow, standIns := [], harness := (true, "57efcbd8008257d17103ff15e7af5e7ee88cd52238626ace9dc6598c9678fd7e"), looks := true }, kinds := [], alts := [], laidByText := true, laidKinds := [.data, .data, .data, .sentinel, .sentinel], laidTests := true, laidLooks := .later }
def CycleBackUptoCardSaid : Prop := Claim7.holds Tryd.pinned (.plain (OpenSpec.upto cycleBackSpec)) cycleBackUptoCard

/-- THE SECOND FORM's CARD OF 'storehouselaw22.CycleLater'. -/
def cycleLaterUptoCard : Claim7 := { stood := { row := cycleLaterUptoRow, standIns := [], harness := (true, "57efcbd8008257d17103ff15e7af5e7ee88cd52238626ace9dc6598c9678fd7e"), looks := true }, kinds := [], alts := [], laidByText := true, laidKinds := [.data, .data, .data, .sentinel, .sentinel], laidTests := true, laidLooks := .later }
def CycleLaterUptoCardSaid : Prop := Claim7.holds Tryd.pinned (.plain (OpenSpec.upto cycleLaterSpec)) cycleLaterUptoCard

/-- THE SECOND FORM's CARD OF 'storehouselaw22.CycleOff'. -/
def cycleOffUptoCard : Claim7 := { stood := { row := cycleOffUptoRow, standIns := [], harness := (true, "57efcbd8008257d17103ff15e7af5e7ee88cd52238626ace9dc6598c9678fd7e"), looks := true }, kinds := [], alts := [], laidByText := true, laidKinds := [.data, .data, .data, .sentinel, .sentinel], laidTests := true, laidLooks := .later }
def CycleOffUptoCardSaid : Prop := Claim7.holds Tryd.pinned (.plain (OpenSpec.upto cycleOffSpec)) cycleOffUptoCard

/-- THE SECOND FORM's CARD OF 'storehouselaw22.CycleReads'. -/
def cycleReadsUptoCard : Claim7 := { stood := { row := cycleReadsUptoRow, standIns := [], harness := (true, "57efcbd8008257d17103ff15e7af5e7ee88cd52238626ace9dc6598c9678fd7e"), looks := true }, kinds := [], alts := [], laidByText := true, laidKinds := [.data, .data, .data, .sentinel, .sentinel], laidTests := true, laidLooks := .later }
def CycleReadsUptoCardSaid : Prop := Claim7.holds Tryd.pinned (.plain (OpenSpec.upto cycleReadsSpec)) cycleReadsUptoCard
end Rows
end Go.Proofs.YtnnfcbebjbfkoaaDoor
