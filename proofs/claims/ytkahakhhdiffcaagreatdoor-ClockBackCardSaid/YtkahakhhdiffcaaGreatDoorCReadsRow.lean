/- What the rows of the rules' statements list: the tables and errors hold what they were laid with; and one world in which they do. The row of ClockReads: its list, and a world that meets it. -/
import Derived.Test.YtkahakhhdiffcaaGreatDoorCards
import Derived.Test.YtkahakhhdiffcaaGreatDoorTie
import Derived.Test.YtkahakhhdiffcaaGreatDoorCNx9
import Derived.WalkKit
import Derived.ProofKit
import Derived.OpenShut
import Derived.Deep.DeepHandedRow
import Derived.Lib.LaidTab
import Derived.Lib.LaidU8
import Derived.MakeChecks
import Derived.LaidLaws
import Derived.Deep.DeepWitnessRowRef
import Derived.Lay
namespace Go.Proofs.YtkahakhhdiffcaaGreatDoor
set_option linter.unusedVariables false
set_option linter.unusedSimpArgs false
open Go.ChangeShapes Go.WideShapes Go.ChangeAt Go.RowKit

theorem own : ownKnob Tryz.prog.godebug = none := by kernel_rfl
theorem laidOut : laidOutB Tryz.prog = true := by kernel_rfl
theorem max_of {W : World} (h : W.ShapedOpen Tryz.prog) : MaxIs W := Tryz.laysM143.s1_3 W h
theorem tabIs_of_mem {name : String} {k : IntKind} {zs : List Int} {W : World} {L : List (String × DataW Unit)} (h : laidMet Tryz.prog L W) (hm : (name, Lib.tabData k zs) ∈ L) {g : Nat} {t e : TypeId} {n : Nat}
    (hg : Tryz.prog.globalNamed name = some g) (hty : (Tryz.prog.globals[g]?).map (·.type) = some t) (ht : Tryz.prog.underlying t = some (.array n e)) (he : Tryz.prog.underlying e = some (.int k)) (hce : Tryz.prog.cellsOf e = 1) (hct : Tryz.prog.cellsOf t = n) : Lib.TabIs Tryz.prog W name k zs := by
  obtain ⟨g', t', cs, fuel, p, hg', ht', hvar, hd⟩ := Lib.laidMet.reads h hm
  obtain rfl := Option.some.inj (hg.symm.trans hg')
  obtain rfl := Option.some.inj (hty.symm.trans ht')
  unfold Lib.TabIs
  rw [hvar, ← Lib.cells_of_tab ht he hce hct hd]
theorem space_data : (Rows.laid_strings_asciiSpace : DataW Unit) = Lib.tabData .u8 Lib.asciiSpaceTab := by kernel_rfl
theorem pow_data : (Rows.laid_internal_strconv_uint64pow10 : DataW Unit) = Lib.tabData .u64 Lib.pow10Tab := by kernel_rfl
theorem gSpace0 : Tryz.prog.globalNamed "strings.asciiSpace" = some 3 := by kernel_rfl
theorem gPow2 : Tryz.prog.globalNamed "internal/strconv.uint64pow10" = some 7 := by kernel_rfl
theorem gSyn : Tryz.prog.globalNamed "strconv.ErrSyntax" = some 5 := by kernel_rfl
theorem gRng : Tryz.prog.globalNamed "strconv.ErrRange" = some 6 := by kernel_rfl
theorem tSpace : (Tryz.prog.globals[3]?).map (·.type) = some 142 := by kernel_rfl
theorem tPow : (Tryz.prog.globals[7]?).map (·.type) = some 192 := by kernel_rfl
theorem tSyn : (Tryz.prog.globals[5]?).map (·.type) = some 69 := by kernel_rfl
theorem tRng : (Tryz.prog.globals[6]?).map (·.type) = some 69 := by kernel_rfl
theorem cellsU8 : Tryz.prog.cellsOf 5 = 1 := by kernel_rfl
theorem cellsU64 : Tryz.prog.cellsOf 153 = 1 := by kernel_rfl
theorem cells256 : Tryz.prog.cellsOf 142 = 256 := by kernel_rfl
theorem cells20 : Tryz.prog.cellsOf 192 = 20 := by kernel_rfl
/-- A variable that is listed as an interface's value holds one. -/
theorem err_mem {name nm : String} {d : DataW Unit} {W : World} {L : List (String × DataW Unit)} (h : laidMet Tryz.prog L W) (hm : (name, DataW.iface nm d) ∈ L) {g : Nat} (hg : Tryz.prog.globalNamed name = some g) (hty : (Tryz.prog.globals[g]?).map (·.type) = some 69) :
    ∃ te pe, W.cell? ⟨g, 0, none⟩ = some (.iface te pe) := by
  obtain ⟨g', t', cs, fuel, p, hg', ht', hvar, hd⟩ := Lib.laidMet.reads h hm
  obtain rfl := Option.some.inj (hg.symm.trans hg')
  obtain rfl := Option.some.inj (hty.symm.trans ht')
  obtain ⟨_, u, v, hcs, -, -⟩ := iface_of_trod Tryz.underlying69 hd
  refine ⟨u, v, ?_⟩
  unfold World.var? at hvar
  rw [hg] at hvar
  simp only [Option.bind_some] at hvar
  split at hvar
  · rename_i cs' t' f' hc
    injection hvar with hvar
    subst hvar
    obtain rfl : cs' = #[.iface u v] := by cases cs'; simp_all
    simp [World.cell?, hc]
  · cases hvar
/-- The numbers of a table's datum, two levels deep. -/
def numOf : DataW Unit → List Value
  | .lit (.int k z) => [Value.int k z]
  | _ => []
def numOf2 : DataW Unit → List Value
  | .agg l => l.flatMap numOf
  | d => numOf d
def numsOf : DataW Unit → Array Value
  | .agg l => (l.flatMap numOf2).toArray
  | _ => #[]
end Go.Proofs.YtkahakhhdiffcaaGreatDoor
namespace Go.Proofs.YtkahakhhdiffcaaGreatDoor
set_option linter.unusedVariables false
set_option linter.unusedSimpArgs false
open Go.ChangeShapes Go.WideShapes Go.ChangeAt Go.RowKit
def laidR : List (String × DataW Unit) := [("math/bits.deBruijn32tab", Rows.laid_math_bits_deBruijn32tab), ("math/bits.deBruijn64tab", Rows.laid_math_bits_deBruijn64tab), ("internal/strconv.uint64pow10", Rows.laid_internal_strconv_uint64pow10), ("unicode/utf8.acceptRanges", Rows.laid_unicode_utf8_acceptRanges), ("strconv.ErrRange", Rows.laid_strconv_ErrRange), ("strconv.ErrSyntax", Rows.laid_strconv_ErrSyntax), ("unicode.White_Space", Rows.laid_unicode_White_Space), ("strings.asciiSpace", Rows.laid_strings_asciiSpace), ("unicode.CaseRanges", Rows.laid_unicode_CaseRanges), ("unicode/utf8.first", Rows.laid_unicode_utf8_first)]
theorem plainR_of {W : World} (h : laidMetH Tryz.prog laidR W) : laidMet Tryz.prog laidR W := by
  rw [_root_.Go.MakeChecks.laidMetH_plain Tryz.prog laidR W (by kernel_rfl)] at h
  exact h
theorem spaceR_of {W : World} (h : laidMetH Tryz.prog laidR W) : SpaceIs W :=
  tabIs_of_mem (plainR_of h) (by rw [← space_data]; exact List.mem_of_getElem? (i := 7) rfl) gSpace0 tSpace Tryz.underlying142 Tryz.underlying5 cellsU8 cells256
theorem powR_of {W : World} (h : laidMetH Tryz.prog laidR W) : PowIs W :=
  tabIs_of_mem (plainR_of h) (by rw [← pow_data]; exact List.mem_of_getElem? (i := 2) rfl) gPow2 tPow Tryz.underlying192 Tryz.underlying153 cellsU64 cells20
theorem errR_of {W : World} (h : laidMetH Tryz.prog laidR W) : ErrIs W :=
  ⟨err_mem (plainR_of h) (d := .ptr (.agg [.lit (.string [105, 110, 118, 97, 108, 105, 100, 32, 115, 121, 110, 116, 97, 120])])) (List.mem_of_getElem? (i := 5) rfl) gSyn tSyn,
   err_mem (plainR_of h) (d := .ptr (.agg [.lit (.string [118, 97, 108, 117, 101, 32, 111, 117, 116, 32, 111, 102, 32, 114, 97, 110, 103, 101])])) (List.mem_of_getElem? (i := 4) rfl) gRng tRng⟩
noncomputable def laidWorldR (os : Os) : World := World.laidAll Tryz.prog os laidR
set_option maxRecDepth 100000 in
theorem laidR_met (os : Os) (args : Array Value) : laidMet Tryz.prog laidR ((laidWorldR os).forCall (fun _ _ => 0) ⟨#[], args, []⟩).memory := laidMet_laidAll _ (by kernel_rfl) (by kernel_rfl)
end Go.Proofs.YtkahakhhdiffcaaGreatDoor
