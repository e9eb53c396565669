/- What the rows of this layer's statements list: the tables hold what they were laid with; and one world in which they do. -/
import Derived.Test.YtjgdfgpnmmkjfaaGreatDoorCards
import Derived.Test.YtjgdfgpnmmkjfaaGreatDoorTie
import Derived.Test.YtjgdfgpnmmkjfaaGreatDoorNAwake
import Derived.WalkKit
import Derived.ProofKit
import Derived.OpenShut
import Derived.Deep.DeepHandedRow
import Derived.Lib.LaidTab
import Derived.Lib.LaidU8
import Derived.MakeChecks
import Derived.Deep.DeepWitnessRowRef
namespace Go.Proofs.YtjgdfgpnmmkjfaaGreatDoor
set_option linter.unusedVariables false
set_option linter.unusedSimpArgs false
open Go.ChangeShapes Go.WideShapes Go.ChangeAt Go.RowKit

theorem own : ownKnob Tryz.prog.godebug = none := by kernel_rfl
theorem laidOut : laidOutB Tryz.prog = true := by kernel_rfl
/-- The list of all rows of this layer. -/
def laidL : List (String × DataW Unit) := [("unicode/utf8.acceptRanges", Rows.laid_unicode_utf8_acceptRanges), ("unicode/utf8.first", Rows.laid_unicode_utf8_first)]
/-- The numbers of a table's datum, two levels deep. -/
def numOf : DataW Unit → List Value
  | .lit (.int k z) => [Value.int k z]
  | _ => []
def numOf2 : DataW Unit → List Value
  | .agg l => l.flatMap numOf
  | d => numOf d
def numsOf : DataW Unit → Array Value
  | .agg l => (l.flatMap numOf2).toArray
  | _ => #[]
/-- The settled world, the variables holding what their initialisers lay. -/
noncomputable def laidWorld (os : Os) : World :=
  let w0 := World.holding Tryz.prog os ⟨#[], #[], []⟩
  let put (h : Array Obj) (g : Nat) (cs : Array Value) : Array Obj := h.modify g fun
    | .cells _ t frozen => .cells cs t frozen
    | o => o
  let h1 := put w0.heap 2 (numsOf Rows.laid_unicode_utf8_acceptRanges)
  let h2 := put h1 1 (numsOf Rows.laid_unicode_utf8_first)
  { w0 with heap := h2 }
set_option maxRecDepth 100000 in
theorem laid_met (os : Os) (args : Array Value) : laidMet Tryz.prog laidL ((laidWorld os).forCall (fun _ _ => 0) ⟨#[], args, []⟩).memory :=
  laidMet_of_run' 12 (by kernel_rfl) (by kernel_rfl)
end Go.Proofs.YtjgdfgpnmmkjfaaGreatDoor
