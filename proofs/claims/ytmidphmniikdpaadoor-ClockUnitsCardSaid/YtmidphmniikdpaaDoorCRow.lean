/- What the rows of this layer's statements list: the tables hold what they were laid with; and one world in which they do. -/
import Derived.Test.YtmidphmniikdpaaDoorCards
import Derived.Test.YtmidphmniikdpaaDoorTie
import Derived.Test.YtmidphmniikdpaaDoorCAwake
import Derived.WalkKit
import Derived.ProofKit
import Derived.OpenShut
import Derived.Deep.DeepHandedRow
import Derived.Lib.LaidTab
import Derived.Lib.LaidU8
import Derived.MakeChecks
import Derived.Deep.DeepWitnessRowRef
namespace Go.Proofs.YtmidphmniikdpaaDoor
set_option linter.unusedVariables false
set_option linter.unusedSimpArgs false
open Go.ChangeShapes Go.WideShapes Go.ChangeAt Go.RowKit

theorem own : ownKnob Tryd.prog.godebug = none := by kernel_rfl
theorem laidOut : laidOutB Tryd.prog = true := by kernel_rfl
/-- The list of all rows of this layer. -/
def laidL : List (String × DataW Unit) := [("math/bits.deBruijn32tab", Rows.laid_math_bits_deBruijn32tab), ("math/bits.deBruijn64tab", Rows.laid_math_bits_deBruijn64tab), ("internal/strconv.uint64pow10", Rows.laid_internal_strconv_uint64pow10), ("unicode.White_Space", Rows.laid_unicode_White_Space), ("strings.asciiSpace", Rows.laid_strings_asciiSpace)]
theorem tabIs_of_mem {name : String} {k : IntKind} {zs : List Int} {W : World} {L : List (String × DataW Unit)} (h : laidMet Tryd.prog L W) (hm : (name, Lib.tabData k zs) ∈ L) {g : Nat} {t e : TypeId} {n : Nat}
    (hg : Tryd.prog.globalNamed name = some g) (hty : (Tryd.prog.globals[g]?).map (·.type) = some t) (ht : Tryd.prog.underlying t = some (.array n e)) (he : Tryd.prog.underlying e = some (.int k)) (hce : Tryd.prog.cellsOf e = 1) (hct : Tryd.prog.cellsOf t = n) : Lib.TabIs Tryd.prog W name k zs := by
  obtain ⟨g', t', cs, fuel, p, hg', ht', hvar, hd⟩ := Lib.laidMet.reads h hm
  obtain rfl := Option.some.inj (hg.symm.trans hg')
  obtain rfl := Option.some.inj (hty.symm.trans ht')
  unfold Lib.TabIs
  rw [hvar, ← Lib.cells_of_tab ht he hce hct hd]
theorem space_data : (Rows.laid_strings_asciiSpace : DataW Unit) = Lib.tabData .u8 Lib.asciiSpaceTab := by kernel_rfl
theorem pow_data : (Rows.laid_internal_strconv_uint64pow10 : DataW Unit) = Lib.tabData .u64 Lib.pow10Tab := by kernel_rfl
theorem gSpace0 : Tryd.prog.globalNamed "strings.asciiSpace" = some 0 := by kernel_rfl
theorem gPow2 : Tryd.prog.globalNamed "internal/strconv.uint64pow10" = some 2 := by kernel_rfl
theorem tSpace : (Tryd.prog.globals[0]?).map (·.type) = some 114 := by kernel_rfl
theorem tPow : (Tryd.prog.globals[2]?).map (·.type) = some 147 := by kernel_rfl
theorem cellsU8 : Tryd.prog.cellsOf 5 = 1 := by kernel_rfl
theorem cellsU64 : Tryd.prog.cellsOf 121 = 1 := by kernel_rfl
theorem cells256 : Tryd.prog.cellsOf 114 = 256 := by kernel_rfl
theorem cells20 : Tryd.prog.cellsOf 147 = 20 := by kernel_rfl
theorem plain_of {W : World} (h : laidMetH Tryd.prog laidL W) : laidMet Tryd.prog laidL W := by
  rw [_root_.Go.MakeChecks.laidMetH_plain Tryd.prog laidL W (by kernel_rfl)] at h
  exact h
theorem space_of {W : World} (h : laidMetH Tryd.prog laidL W) : SpaceIs W :=
  tabIs_of_mem (plain_of h) (by rw [← space_data]; exact .tail _ (.tail _ (.tail _ (.tail _ (.head _))))) gSpace0 tSpace Tryd.underlying114 Tryd.underlying5 cellsU8 cells256
theorem pow_of {W : World} (h : laidMetH Tryd.prog laidL W) : PowIs W :=
  tabIs_of_mem (plain_of h) (by rw [← pow_data]; exact .tail _ (.tail _ (.head _))) gPow2 tPow Tryd.underlying147 Tryd.underlying121 cellsU64 cells20

/-- The numbers of a table's datum. -/
def numsOf : DataW Unit → Array Value
  | .agg l => (l.map fun
      | .lit (.int k z) => Value.int k z
      | _ => undef).toArray
  | _ => #[]
/-- The settled world with two blocks more (the ranges of unicode.White_Space; its table), the five variables holding what their initialisers lay. -/
noncomputable def laidWorld (os : Os) : World :=
  let N := (World.settled Tryd.prog os).heap.size
  let w0 := World.holding Tryd.prog os ⟨#[.cells (Lib.whiteT.map fun (z : Nat) => Value.int .u16 (z : Int)).toArray 141, .cells #[.slice (some ⟨N, 0, none⟩) 7 7, .slice none 0 0, .int .i64 2] 138], #[], []⟩
  let put (h : Array Obj) (g : Nat) (cs : Array Value) : Array Obj := h.modify g fun
    | .cells _ t frozen => .cells cs t frozen
    | o => o
  let h1 := put w0.heap 0 (numsOf Rows.laid_strings_asciiSpace)
  let h2 := put h1 1 #[.pointer (some ⟨N + 1, 0, none⟩)]
  let h3 := put h2 2 (numsOf Rows.laid_internal_strconv_uint64pow10)
  let h4 := put h3 4 (numsOf Rows.laid_math_bits_deBruijn32tab)
  let h5 := put h4 5 (numsOf Rows.laid_math_bits_deBruijn64tab)
  { w0 with heap := h5 }
theorem laid_met (os : Os) (args : Array Value) : laidMet Tryd.prog laidL ((laidWorld os).forCall (fun _ _ => 0) ⟨#[], args, []⟩).memory :=
  laidMet_of_run' 12 (by kernel_rfl) (by kernel_rfl)
end Go.Proofs.YtmidphmniikdpaaDoor
