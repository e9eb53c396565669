/-
  DERIVED. GIVEN WITH THE SEED: THE CARDS: each row of YtafohdmhjilleaaDoorRows.lean that lists a variable, with what it lists TIED to the program's text (the seventh form; the later family's looks); each row that meets fmt, with fmt's text TOLD by the authors' own Lean function (tested against real Go, not proved from fmt's source: count such statements apart). THE CARD IS WHAT COUNTS. Prove the row's statement (the work); the ties are given (YtafohdmhjilleaaDoorTie.lean); close each card by the builder's one call (the guide's Derived/Test/ToyasCard.lean, 'card_holds'). Laid BY PROGRAM, IN A SANDBOX (cutbox-door.mjs). By AI agents, Wed Nov 11 2026. No macro, syntax, notation, axiom, sorry.
-/
import Derived.Test.YtafohdmhjilleaaDoorRows
import GoSem.ClaimSeven
namespace Go.Proofs.YtafohdmhjilleaaDoor
namespace Rows

/-- THE TIED CARD OF 'threadbarelaw12.PipeGoes'. -/
def pipeGoesCard : Claim7 := { stood := { row := pipeGoesRow, standIns := [], harness := (true, "85e91d3515a92a90076adb859db4976450ae36ed577c29d752dadcdded87c94a"), looks := false }, kinds := [], alts := [], laidByText := true, laidKinds := [.data, .pinned], laidTests := true, laidLooks := .later }
def PipeGoesCardSaid : Prop := Claim7.holds Tryd.pinned (.plain (OpenSpec.ofChange pipeGoesSpec)) pipeGoesCard

/-- THE TIED CARD OF 'threadbarelaw12.PipeCuts'. -/
def pipeCutsCard : Claim7 := { stood := { row := pipeCutsRow, standIns := [], harness := (true, "85e91d3515a92a90076adb859db4976450ae36ed577c29d752dadcdded87c94a"), looks := false }, kinds := [], alts := [], laidByText := true, laidKinds := [.data, .pinned], laidTests := true, laidLooks := .later }
def PipeCutsCardSaid : Prop := Claim7.holds Tryd.pinned (.plain (OpenSpec.ofChange pipeCutsSpec)) pipeCutsCard

/-- THE TIED CARD OF 'threadbarelaw12.PipeTranslates'. -/
def pipeTranslatesCard : Claim7 := { stood := { row := pipeTranslatesRow, standIns := [], harness := (true, "85e91d3515a92a90076adb859db4976450ae36ed577c29d752dadcdded87c94a"), looks := false }, kinds := [], alts := [], laidByText := true, laidKinds := [.data, .pinned], laidTests := true, laidLooks := .later }
def PipeTranslatesCardSaid : Prop := Claim7.holds Tryd.pinned (.plain (OpenSpec.ofChange pipeTranslatesSpec)) pipeTranslatesCard

/-- THE TIED CARD OF 'threadbarelaw12.PipeCarries'. -/
def pipeCarriesCard : Claim7 := { stood := { row := pipeCarriesRow, standIns := [], harness := (true, "85e91d3515a92a90076adb859db4976450ae36ed577c29d752dadcdded87c94a"), looks := false }, kinds := [], alts := [], laidByText := true, laidKinds := [.data, .pinned], laidTests := true, laidLooks := .later }
def PipeCarriesCardSaid : Prop := Claim7.holds Tryd.pinned (.plain (OpenSpec.ofChange pipeCarriesSpec)) pipeCarriesCard

/-- THE TIED CARD OF 'threadbarelaw12.PipeLines'. -/
def pipeLinesCard : Claim7 := { stood := { row := pipeLinesRow, standIns := [], harness := (true, "85e91d3515a92a90076adb859db4976450ae36ed577c29d752dadcdded87c94a"), looks := false }, kinds := [], alts := [], laidByText := true, laidKinds := [.data, .pinned], laidTests := true, laidLooks := .later }
def PipeLinesCardSaid : Prop := Claim7.holds Tryd.pinned (.plain (OpenSpec.ofChange pipeLinesSpec)) pipeLinesCard

/-- THE TIED CARD OF 'threadbarelaw12.PipeBack'. -/
def pipeBackCard : Claim7 := { stood := { row := pipeBackRow, standIns := [], harness := (true, "85e91d3515a92a90076adb859db4976450ae36ed577c29d752dadcdded87c94a"), looks := false }, kinds := [], alts := [], laidByText := true, laidKinds := [.data, .pinned], laidTests := true, laidLooks := .later }
def PipeBackCardSaid : Prop := Claim7.holds Tryd.pinned (.plain (OpenSpec.ofChange pipeBackSpec)) pipeBackCard

/-- THE SECOND FORM's CARD OF 'threadbarelaw12.PipeGoes'. -/
def pipeGoesUptoCard : Claim7 := { stood := { row := pipeGoesUptoRow, standIns := [], harness := (true, "85e91d3515a92a90076adb859db4976450ae36ed577c29d752dadcdded87c94a"), looks := false }, kinds := [], alts := [], laidByText := true, laidKinds := [.data, .pinned], laidTests := true, laidLooks := .later }
def PipeGoesUptoCardSaid : Prop := Claim7.holds Tryd.pinned (.plain (OpenSpec.upto pipeGoesSpec)) pipeGoesUptoCard

/-- THE SECOND FORM's CARD OF 'threadbarelaw12.PipeCuts'. -/
def pipeCutsUptoCard : Claim7 := { stood := { row := pipeCutsUptoRow, standIns := [], harness := (true, "85e91d3515a92a90076adb859db4976450ae36ed577c29d752dadcdded87c94a"), looks := false }, kinds := [], alts := [], laidByText := true, laidKinds := [.data, .pinned], laidTests := true, laidLooks := .later }
def PipeCutsUptoCardSaid : Prop := Claim7.holds Tryd.pinned (.plain (OpenSpec.upto pipeCutsSpec)) pipeCutsUptoCard

/-- THE SECOND FORM's CARD OF 'threadbarelaw12.PipeTranslates'. -/
def pipeTranslatesUptoCard : Claim7 := { stood := { row := pipeTranslatesUptoRow, standIns := [], harness := (true, "85e91d3515a92a90076adb859db4976450ae36ed577c29d752dadcdded87c94a"), looks := false }, kinds := [], alts := [], laidByText := true, laidKinds := [.data, .pinned], laidTests := true, laidLooks := .later }
def PipeTranslatesUptoCardSaid : Prop := Claim7.holds Tryd.pinned (.plain (OpenSpec.upto pipeTranslatesSpec)) pipeTranslatesUptoCard

/-- THE SECOND FORM's CARD OF 'threadbarelaw12.PipeCarries'. -/
def pipeCarriesUptoCard : Claim7 := { stood := { row := pipeCarriesUptoRow, standIns := [], harness := (true, "85e91d3515a92a90076adb859db4976450ae36ed577c29d752dadcdded87c94a"), looks := false }, kinds := [], alts := [], laidByText := true, laidKinds := [.data, .pinned], laidTests := true, laidLooks := .later }
def PipeCarriesUptoCardSaid : Prop := Claim7.holds Tryd.pinned (.plain (OpenSpec.upto pipeCarriesSpec)) pipeCarriesUptoCard

/-- THE SECOND FORM's CARD OF 'threadbarelaw12.PipeLines'. -/
def pipeLinesUptoCard : Claim7 := { stood := { row := pipeLinesUptoRow, standIns := [], harness := (true, "85e91d3515a92a90076adb859db4976450ae36ed577c29d752dadcdded87c94a"), looks := false }, kinds := [], alts := [], laidByText := true, laidKinds := [.data, .pinned], laidTests := true, laidLooks := .later }
def PipeLinesUptoCardSaid : Prop := Claim7.holds Tryd.pinned (.plain (OpenSpec.upto pipeLinesSpec)) pipeLinesUptoCard

/-- THE SECOND FORM's CARD OF 'threadbarelaw12.PipeBack'. -/
def pipeBackUptoCard : Claim7 := { stood := { row := pipeBackUptoRow, standIns := [], harness := (true, "85e91d3515a92a90076adb859db4976450ae36ed577c29d752dadcdded87c94a"), looks := false }, kinds := [], alts := [], laidByText := true, laidKinds := [.data, .pinned], laidTests := true, laidLooks := .later }
def PipeBackUptoCardSaid : Prop := Claim7.holds Tryd.pinned (.plain (OpenSpec.upto pipeBackSpec)) pipeBackUptoCard
end Rows
end Go.Proofs.YtafohdmhjilleaaDoor
