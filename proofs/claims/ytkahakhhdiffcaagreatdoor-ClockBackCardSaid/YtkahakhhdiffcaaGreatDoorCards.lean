/-
  DERIVED. GIVEN WITH THE SEED: THE CARDS: each row of YtkahakhhdiffcaaGreatDoorRows.lean that lists a variable, with what it lists TIED to the program's text (the seventh form; the later family's looks); each row that meets fmt, with fmt's text TOLD by the authors' own Lean function (tested against real Go, not proved from fmt's source: count such statements apart). THE CARD IS WHAT COUNTS. Prove the row's statement (the work); the ties are given (YtkahakhhdiffcaaGreatDoorTie.lean); close each card by the builder's one call (the guide's Derived/Test/ToyasCard.lean, 'card_holds'). Laid BY PROGRAM, IN A SANDBOX (cutbox-door.mjs). By AI agents, Wed Nov 11 2026. No macro, syntax, notation, axiom, sorry.
-/
import Derived.Test.YtkahakhhdiffcaaGreatDoorRows
import GoSem.ClaimSeven
namespace Go.Proofs.YtkahakhhdiffcaaGreatDoor
namespace Rows

/-- THE TIED CARD OF 'threadbarelaw11.ClockNext'. -/
def clockNextCard : Claim7 := { stood := { row := clockNextRow, standIns := [], harness := (true, "ad6019006533297c71215ccf69ae7ad82be26c11e17c409741766fe7fa6fa1fe"), looks := true }, kinds := [], alts := [], laidByText := true, laidKinds := [.data, .data, .data, .data, .sentinel, .sentinel, .listed, .data, .pinned], laidTests := true, laidLooks := .later }
def ClockNextCardSaid : Prop := Claim7.holds Tryz.pinned (.plain (OpenSpec.ofChange clockNextSpec)) clockNextCard

/-- THE TIED CARD OF 'threadbarelaw11.ClockBack'. -/
def clockBackCard : Claim7 := { stood := { row := clockBackRow, standIns := [], harness := (true, "ad6019006533297c71215ccf69ae7ad82be26c11e17c409741766fe7fa6fa1fe"), looks := true }, kinds := [], alts := [], laidByText := true, laidKinds := [.data, .data, .data, .data, .sentinel, .sentinel, .listed, .data, .pinned], laidTests := true, laidLooks := .later }
def ClockBackCardSaid : Prop := Claim7.holds Tryz.pinned (.plain (OpenSpec.ofChange clockBackSpec)) clockBackCard

/-- THE TIED CARD OF 'threadbarelaw11.ClockReads'. -/
def clockReadsCard : Claim7 := { stood := { row := clockReadsRow, standIns := [], harness := (true, "ad6019006533297c71215ccf69ae7ad82be26c11e17c409741766fe7fa6fa1fe"), looks := true }, kinds := [], alts := [], laidByText := true, laidKinds := [.data, .data, .data, .data, .sentinel, .sentinel, .listed, .data, .pinned, .pinned], laidTests := true, laidLooks := .later }
def ClockReadsCardSaid : Prop := Claim7.holds Tryz.pinned (.plain (OpenSpec.ofChange clockReadsSpec)) clockReadsCard

/-- THE SECOND FORM's CARD OF 'threadbarelaw11.ClockNext'. -/
def clockNextUptoCard : Claim7 := { stood := { row := clockNextUptoRow, standIns := [], harness := (true, "ad6019006533297c71215ccf69ae7ad82be26c11e17c409741766fe7fa6fa1fe"), looks := true }, kinds := [], alts := [], laidByText := true, laidKinds := [.data, .data, .data, .data, .sentinel, .sentinel, .listed, .data, .pinned], laidTests := true, laidLooks := .later }
def ClockNextUptoCardSaid : Prop := Claim7.holds Tryz.pinned (.plain (OpenSpec.upto clockNextSpec)) clockNextUptoCard

/-- THE SECOND FORM's CARD OF 'threadbarelaw11.ClockBack'. -/
def clockBackUptoCard : Claim7 := { stood := { row := clockBackUptoRow, standIns := [], harness := (true, "ad6019006533297c71215ccf69ae7ad82be26c11e17c409741766fe7fa6fa1fe"), looks := true }, kinds := [], alts := [], laidByText := true, laidKinds := [.data, .data, .data, .data, .sentinel, .sentinel, .listed, .data, .pinned], laidTests := true, laidLooks := .later }
def ClockBackUptoCardSaid : Prop := Claim7.holds Tryz.pinned (.plain (OpenSpec.upto clockBackSpec)) clockBackUptoCard

/-- THE SECOND FORM's CARD OF 'threadbarelaw11.ClockReads'. -/
def clockReadsUptoCard : Claim7 := { stood := { row := clockReadsUptoRow, standIns := [], harness := (true, "ad6019006533297c71215ccf69ae7ad82be26c11e17c409741766fe7fa6fa1fe"), looks := true }, kinds := [], alts := [], laidByText := true, laidKinds := [.data, .data, .data, .data, .sentinel, .sentinel, .listed, .data, .pinned, .pinned], laidTests := true, laidLooks := .later }
def ClockReadsUptoCardSaid : Prop := Claim7.holds Tryz.pinned (.plain (OpenSpec.upto clockReadsSpec)) clockReadsUptoCard
end Rows
end Go.Proofs.YtkahakhhdiffcaaGreatDoor
