/-
  DERIVED. GIVEN WITH THE SEED: THE CARDS: each row of YtjgdfgpnmmkjfaaDoorRows.lean that lists a variable, with what it lists TIED to the program's text (the seventh form; the later family's looks); each row that meets fmt, with fmt's text TOLD by the authors' own Lean function (tested against real Go, not proved from fmt's source: count such statements apart). THE CARD IS WHAT COUNTS. Prove the row's statement (the work); the ties are given (YtjgdfgpnmmkjfaaDoorTie.lean); close each card by the builder's one call (the guide's Derived/Test/ToyasCard.lean, 'card_holds'). Laid BY PROGRAM, IN A SANDBOX (cutbox-door.mjs). By AI agents, Wed Nov 11 2026. No macro, syntax, notation, axiom, sorry.
-/
import Derived.Test.YtjgdfgpnmmkjfaaDoorRows
import GoSem.ClaimSeven
namespace Go.Proofs.YtjgdfgpnmmkjfaaDoor
namespace Rows

/-- THE TIED CARD OF 'threadbarelaw16.NamesPaths'. -/
def namesPathsCard : Claim7 := { stood := { row := namesPathsRow, standIns := [], harness := (true, "fc6a467001582358d30cb1de6b0e5d130b6113286d5bde8f9ef46537783e5825"), looks := false }, kinds := [], alts := [], laidByText := true, laidKinds := [.data, .pinned], laidTests := true, laidLooks := .later }
def NamesPathsCardSaid : Prop := Claim7.holds Tryd.pinned (.plain (OpenSpec.ofChange namesPathsSpec)) namesPathsCard

/-- THE SECOND FORM's CARD OF 'threadbarelaw16.NamesPaths'. -/
def namesPathsUptoCard : Claim7 := { stood := { row := namesPathsUptoRow, standIns := [], harness := (true, "fc6a467001582358d30cb1de6b0e5d130b6113286d5bde8f9ef46537783e5825"), looks := false }, kinds := [], alts := [], laidByText := true, laidKinds := [.data, .pinned], laidTests := true, laidLooks := .later }
def NamesPathsUptoCardSaid : Prop := Claim7.holds Tryd.pinned (.plain (OpenSpec.upto namesPathsSpec)) namesPathsUptoCard
end Rows
end Go.Proofs.YtjgdfgpnmmkjfaaDoor
