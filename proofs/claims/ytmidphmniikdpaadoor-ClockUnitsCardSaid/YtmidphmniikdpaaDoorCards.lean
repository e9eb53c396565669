/-
  DERIVED. GIVEN WITH THE SEED: THE CARDS: each row of YtmidphmniikdpaaDoorRows.lean that lists a variable, with what it lists TIED to the program's text (the seventh form; the later family's looks); each row that meets fmt, with fmt's text TOLD by the authors' own Lean function (tested against real Go, not proved from fmt's source: count such statements apart). THE CARD IS WHAT COUNTS. Prove the row's statement (the work); the ties are given (YtmidphmniikdpaaDoorTie.lean); close each card by the builder's one call (the guide's Derived/Test/ToyasCard.lean, 'card_holds'). Laid BY PROGRAM, IN A SANDBOX (cutbox-door.mjs). By AI agents, Wed Nov 11 2026. No macro, syntax, notation, axiom, sorry.
-/
import Derived.Test.YtmidphmniikdpaaDoorRows
import GoSem.ClaimSeven
namespace Go.Proofs.YtmidphmniikdpaaDoor
namespace Rows

/-- THE TIED CARD OF 'threadbarelaw11.ClockWrites'. -/
def clockWritesCard : Claim7 := { stood := { row := clockWritesRow, standIns := [], harness := (true, "0dc274fcd631f692ce86c3bf3260837e4dfee473d33df9201c52533381eade34"), looks := false }, kinds := [], alts := [], laidByText := true, laidKinds := [.data, .data, .data, .listed, .data], laidTests := true, laidLooks := .later }
def ClockWritesCardSaid : Prop := Claim7.holds Tryd.pinned (.plain (OpenSpec.ofChange clockWritesSpec)) clockWritesCard

/-- THE TIED CARD OF 'threadbarelaw11.ClockEaster'. -/
def clockEasterCard : Claim7 := { stood := { row := clockEasterRow, standIns := [], harness := (true, "0dc274fcd631f692ce86c3bf3260837e4dfee473d33df9201c52533381eade34"), looks := false }, kinds := [], alts := [], laidByText := true, laidKinds := [.data, .data, .data, .listed, .data], laidTests := true, laidLooks := .later }
def ClockEasterCardSaid : Prop := Claim7.holds Tryd.pinned (.plain (OpenSpec.ofChange clockEasterSpec)) clockEasterCard

/-- THE TIED CARD OF 'threadbarelaw11.ClockDates'. -/
def clockDatesCard : Claim7 := { stood := { row := clockDatesRow, standIns := [], harness := (true, "0dc274fcd631f692ce86c3bf3260837e4dfee473d33df9201c52533381eade34"), looks := false }, kinds := [], alts := [], laidByText := true, laidKinds := [.data, .data, .data, .listed, .data], laidTests := true, laidLooks := .later }
def ClockDatesCardSaid : Prop := Claim7.holds Tryd.pinned (.plain (OpenSpec.ofChange clockDatesSpec)) clockDatesCard

/-- THE TIED CARD OF 'threadbarelaw11.ClockWeeks'. -/
def clockWeeksCard : Claim7 := { stood := { row := clockWeeksRow, standIns := [], harness := (true, "0dc274fcd631f692ce86c3bf3260837e4dfee473d33df9201c52533381eade34"), looks := false }, kinds := [], alts := [], laidByText := true, laidKinds := [.data, .data, .data, .listed, .data], laidTests := true, laidLooks := .later }
def ClockWeeksCardSaid : Prop := Claim7.holds Tryd.pinned (.plain (OpenSpec.ofChange clockWeeksSpec)) clockWeeksCard

/-- THE TIED CARD OF 'threadbarelaw11.ClockAdds'. -/
def clockAddsCard : Claim7 := { stood := { row := clockAddsRow, standIns := [], harness := (true, "0dc274fcd631f692ce86c3bf3260837e4dfee473d33df9201c52533381eade34"), looks := false }, kinds := [], alts := [], laidByText := true, laidKinds := [.data, .data, .data, .listed, .data], laidTests := true, laidLooks := .later }
def ClockAddsCardSaid : Prop := Claim7.holds Tryd.pinned (.plain (OpenSpec.ofChange clockAddsSpec)) clockAddsCard

/-- THE TIED CARD OF 'threadbarelaw11.ClockUnits'. -/
def clockUnitsCard : Claim7 := { stood := { row := clockUnitsRow, standIns := [], harness := (true, "0dc274fcd631f692ce86c3bf3260837e4dfee473d33df9201c52533381eade34"), looks := false }, kinds := [], alts := [], laidByText := true, laidKinds := [.data, .data, .data, .listed, .data], laidTests := true, laidLooks := .later }
def ClockUnitsCardSaid : Prop := Claim7.holds Tryd.pinned (.plain (OpenSpec.ofChange clockUnitsSpec)) clockUnitsCard

/-- THE SECOND FORM's CARD OF 'threadbarelaw11.ClockWrites'. -/
def clockWritesUptoCard : Claim7 := { stood := { row := clockWritesUptoRow, standIns := [], harness := (true, "0dc274fcd631f692ce86c3bf3260837e4dfee473d33df9201c52533381eade34"), looks := false }, kinds := [], alts := [], laidByText := true, laidKinds := [.data, .data, .data, .listed, .data], laidTests := true, laidLooks := .later }
def ClockWritesUptoCardSaid : Prop := Claim7.holds Tryd.pinned (.plain (OpenSpec.upto clockWritesSpec)) clockWritesUptoCard

/-- THE SECOND FORM's CARD OF 'threadbarelaw11.ClockEaster'. -/
def clockEasterUptoCard : Claim7 := { stood := { row := clockEasterUptoRow, standIns := [], harness := (true, "0dc274fcd631f692ce86c3bf3260837e4dfee473d33df9201c52533381eade34"), looks := false }, kinds := [], alts := [], laidByText := true, laidKinds := [.data, .data, .data, .listed, .data], laidTests := true, laidLooks := .later }
def ClockEasterUptoCardSaid : Prop := Claim7.holds Tryd.pinned (.plain (OpenSpec.upto clockEasterSpec)) clockEasterUptoCard

/-- THE SECOND FORM's CARD OF 'threadbarelaw11.ClockDates'. -/
def clockDatesUptoCard : Claim7 := { stood := { row := clockDatesUptoRow, standIns := [], harness := (true, "0dc274fcd631f692ce86c3bf3260837e4dfee473d33df9201c52533381eade34"), looks := false }, kinds := [], alts := [], laidByText := true, laidKinds := [.data, .data, .data, .listed, .data], laidTests := true, laidLooks := .later }
def ClockDatesUptoCardSaid : Prop := Claim7.holds Tryd.pinned (.plain (OpenSpec.upto clockDatesSpec)) clockDatesUptoCard

/-- THE SECOND FORM's CARD OF 'threadbarelaw11.ClockWeeks'. -/
def clockWeeksUptoCard : Claim7 := { stood := { row := clockWeeksUptoRow, standIns := [], harness := (true, "0dc274fcd631f692ce86c3bf3260837e4dfee473d33df9201c52533381eade34"), looks := false }, kinds := [], alts := [], laidByText := true, laidKinds := [.data, .data, .data, .listed, .data], laidTests := true, laidLooks := .later }
def ClockWeeksUptoCardSaid : Prop := Claim7.holds Tryd.pinned (.plain (OpenSpec.upto clockWeeksSpec)) clockWeeksUptoCard

/-- THE SECOND FORM's CARD OF 'threadbarelaw11.ClockAdds'. -/
def clockAddsUptoCard : Claim7 := { stood := { row := clockAddsUptoRow, standIns := [], harness := (true, "0dc274fcd631f692ce86c3bf3260837e4dfee473d33df9201c52533381eade34"), looks := false }, kinds := [], alts := [], laidByText := true, laidKinds := [.data, .data, .data, .listed, .data], laidTests := true, laidLooks := .later }
def ClockAddsUptoCardSaid : Prop := Claim7.holds Tryd.pinned (.plain (OpenSpec.upto clockAddsSpec)) clockAddsUptoCard

/-- THE SECOND FORM's CARD OF 'threadbarelaw11.ClockUnits'. -/
def clockUnitsUptoCard : Claim7 := { stood := { row := clockUnitsUptoRow, standIns := [], harness := (true, "0dc274fcd631f692ce86c3bf3260837e4dfee473d33df9201c52533381eade34"), looks := false }, kinds := [], alts := [], laidByText := true, laidKinds := [.data, .data, .data, .listed, .data], laidTests := true, laidLooks := .later }
def ClockUnitsUptoCardSaid : Prop := Claim7.holds Tryd.pinned (.plain (OpenSpec.upto clockUnitsSpec)) clockUnitsUptoCard
end Rows
end Go.Proofs.YtmidphmniikdpaaDoor
