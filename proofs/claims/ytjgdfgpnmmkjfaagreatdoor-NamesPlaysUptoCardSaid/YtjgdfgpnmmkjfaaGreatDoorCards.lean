/-
  DERIVED. GIVEN WITH THE SEED: THE CARDS: each row of YtjgdfgpnmmkjfaaGreatDoorRows.lean that lists a variable, with what it lists TIED to the program's text (the seventh form; the later family's looks); each row that meets fmt, with fmt's text TOLD by the authors' own Lean function (tested against real Go, not proved from fmt's source: count such statements apart). THE CARD IS WHAT COUNTS. Prove the row's statement (the work); the ties are given (YtjgdfgpnmmkjfaaGreatDoorTie.lean); close each card by the builder's one call (the guide's Derived/Test/ToyasCard.lean, 'card_holds'). Laid BY PROGRAM, IN A SANDBOX (cutbox-door.mjs). By AI agents, Wed Nov 11 2026. No macro, syntax, notation, axiom, sorry.
-/
import Derived.Test.YtjgdfgpnmmkjfaaGreatDoorRows
import GoSem.ClaimSeven
namespace Go.Proofs.YtjgdfgpnmmkjfaaGreatDoor
namespace Rows

/-- THE TIED CARD OF 'threadbarelaw16.NamesTree'. -/
def namesTreeCard : Claim7 := { stood := { row := namesTreeRow, standIns := [], harness := (true, "b4a75aad7b9a2ae180e0e05e3a117b9cdceb56956227edf916baf7c2fae69cc0"), looks := false }, kinds := [], alts := [], laidByText := true, laidKinds := [.data, .pinned], laidTests := true, laidLooks := .later }
def NamesTreeCardSaid : Prop := Claim7.holds Tryz.pinned (.plain (OpenSpec.ofChange namesTreeSpec)) namesTreeCard

/-- THE TIED CARD OF 'threadbarelaw16.NamesFound'. -/
def namesFoundCard : Claim7 := { stood := { row := namesFoundRow, standIns := [], harness := (true, "b4a75aad7b9a2ae180e0e05e3a117b9cdceb56956227edf916baf7c2fae69cc0"), looks := false }, kinds := [], alts := [], laidByText := true, laidKinds := [.data, .pinned], laidTests := true, laidLooks := .later }
def NamesFoundCardSaid : Prop := Claim7.holds Tryz.pinned (.plain (OpenSpec.ofChange namesFoundSpec)) namesFoundCard

/-- THE TIED CARD OF 'threadbarelaw16.NamesPlays'. -/
def namesPlaysCard : Claim7 := { stood := { row := namesPlaysRow, standIns := [], harness := (true, "b4a75aad7b9a2ae180e0e05e3a117b9cdceb56956227edf916baf7c2fae69cc0"), looks := false }, kinds := [], alts := [], laidByText := true, laidKinds := [.data, .pinned], laidTests := true, laidLooks := .later }
def NamesPlaysCardSaid : Prop := Claim7.holds Tryz.pinned (.plain (OpenSpec.ofChange namesPlaysSpec)) namesPlaysCard

/-- THE SECOND FORM's CARD OF 'threadbarelaw16.NamesTree'. -/
def namesTreeUptoCard : Claim7 := { stood := { row := namesTreeUptoRow, standIns := [], harness := (true, "b4a75aad7b9a2ae180e0e05e3a117b9cdceb56956227edf916baf7c2fae69cc0"), looks := false }, kinds := [], alts := [], laidByText := true, laidKinds := [.data, .pinned], laidTests := true, laidLooks := .later }
def NamesTreeUptoCardSaid : Prop := Claim7.holds Tryz.pinned (.plain (OpenSpec.upto namesTreeSpec)) namesTreeUptoCard

/-- THE SECOND FORM's CARD OF 'threadbarelaw16.NamesFound'. -/
def namesFoundUptoCard : Claim7 := { stood := { row := namesFoundUptoRow, standIns := [], harness := (true, "b4a75aad7b9a2ae180e0e05e3a117b9cdceb56956227edf916baf7c2fae69cc0"), looks := false }, kinds := [], alts := [], laidByText := true, laidKinds := [.data, .pinned], laidTests := true, laidLooks := .later }
def NamesFoundUptoCardSaid : Prop := Claim7.holds Tryz.pinned (.plain (OpenSpec.upto namesFoundSpec)) namesFoundUptoCard

/-- THE SECOND FORM's CARD OF 'threadbarelaw16.NamesPlays'. -/
def namesPlaysUptoCard : Claim7 := { stood := { row := namesPlaysUptoRow, standIns := [], harness := (true, "b4a75aad7b9a2ae180e0e05e3a117b9cdceb56956227edf916baf7c2fae69cc0"), looks := false }, kinds := [], alts := [], laidByText := true, laidKinds := [.data, .pinned], laidTests := true, laidLooks := .later }
def NamesPlaysUptoCardSaid : Prop := Claim7.holds Tryz.pinned (.plain (OpenSpec.upto namesPlaysSpec)) namesPlaysUptoCard
end Rows
end Go.Proofs.YtjgdfgpnmmkjfaaGreatDoor
