/- The row of ClockNext: its list, and a world that meets it. -/
import Derived.Test.YtkahakhhdiffcaaGreatDoorCNRow
namespace Go.Proofs.YtkahakhhdiffcaaGreatDoor
set_option linter.unusedVariables false
set_option linter.unusedSimpArgs false
open Go.ChangeShapes Go.WideShapes Go.ChangeAt Go.RowKit
def laidL : List (String × DataW Unit) := [("math/bits.deBruijn32tab", Rows.laid_math_bits_deBruijn32tab), ("math/bits.deBruijn64tab", Rows.laid_math_bits_deBruijn64tab), ("internal/strconv.uint64pow10", Rows.laid_internal_strconv_uint64pow10), ("unicode/utf8.acceptRanges", Rows.laid_unicode_utf8_acceptRanges), ("strconv.ErrRange", Rows.laid_strconv_ErrRange), ("strconv.ErrSyntax", Rows.laid_strconv_ErrSyntax), ("unicode.White_Space", Rows.laid_unicode_White_Space), ("strings.asciiSpace", Rows.laid_strings_asciiSpace), ("unicode/utf8.first", Rows.laid_unicode_utf8_first)]
theorem plain_of {W : World} (h : laidMetH Tryz.prog laidL W) : laidMet Tryz.prog laidL W := by
  rw [_root_.Go.MakeChecks.laidMetH_plain Tryz.prog laidL W (by kernel_rfl)] at h
  exact h
theorem space_of {W : World} (h : laidMetH Tryz.prog laidL W) : SpaceIs W :=
  tabIs_of_mem (plain_of h) (by rw [← space_data]; exact List.mem_of_getElem? (i := 7) rfl) gSpace0 tSpace Tryz.underlying142 Tryz.underlying5 cellsU8 cells256
theorem pow_of {W : World} (h : laidMetH Tryz.prog laidL W) : PowIs W :=
  tabIs_of_mem (plain_of h) (by rw [← pow_data]; exact List.mem_of_getElem? (i := 2) rfl) gPow2 tPow Tryz.underlying192 Tryz.underlying153 cellsU64 cells20
theorem err_of {W : World} (h : laidMetH Tryz.prog laidL W) : ErrIs W :=
  ⟨err_mem (plain_of h) (d := .ptr (.agg [.lit (.string [105, 110, 118, 97, 108, 105, 100, 32, 115, 121, 110, 116, 97, 120])])) (List.mem_of_getElem? (i := 5) rfl) gSyn tSyn,
   err_mem (plain_of h) (d := .ptr (.agg [.lit (.string [118, 97, 108, 117, 101, 32, 111, 117, 116, 32, 111, 102, 32, 114, 97, 110, 103, 101])])) (List.mem_of_getElem? (i := 4) rfl) gRng tRng⟩
/-- The settled world with four blocks more (the ranges of unicode.White_Space; its table; two errors), the variables holding what their initialisers lay. -/
noncomputable def laidWorld (os : Os) : World :=
  let N := (World.settled Tryz.prog os).heap.size
  let w0 := World.holding Tryz.prog os ⟨#[.cells (Lib.whiteT.map fun (z : Nat) => Value.int .u16 (z : Int)).toArray 186, .cells #[.slice (some ⟨N, 0, none⟩) 7 7, .slice none 0 0, .int .i64 2] 183,
    .cells #[.string ⟨#[105, 110, 118, 97, 108, 105, 100, 32, 115, 121, 110, 116, 97, 120]⟩] 202, .cells #[.string ⟨#[118, 97, 108, 117, 101, 32, 111, 117, 116, 32, 111, 102, 32, 114, 97, 110, 103, 101]⟩] 202], #[], []⟩
  let put (h : Array Obj) (g : Nat) (cs : Array Value) : Array Obj := h.modify g fun
    | .cells _ t frozen => .cells cs t frozen
    | o => o
  let h1 := put w0.heap 3 (numsOf Rows.laid_strings_asciiSpace)
  let h2 := put h1 4 #[.pointer (some ⟨N + 1, 0, none⟩)]
  let h3 := put h2 7 (numsOf Rows.laid_internal_strconv_uint64pow10)
  let h4 := put h3 9 (numsOf Rows.laid_math_bits_deBruijn32tab)
  let h5 := put h4 10 (numsOf Rows.laid_math_bits_deBruijn64tab)
  let h6 := put h5 2 (numsOf Rows.laid_unicode_utf8_acceptRanges)
  let h7 := put h6 1 (numsOf Rows.laid_unicode_utf8_first)
  let h8 := put h7 5 #[.iface 200 (.pointer (some ⟨N + 2, 0, none⟩))]
  let h9 := put h8 6 #[.iface 200 (.pointer (some ⟨N + 3, 0, none⟩))]
  { w0 with heap := h9 }
/-- Rows of cells, each from its block's head on. -/
def rowsOf (l : List (Nat × Nat)) : List MemPlace := l.flatMap fun x => MemPlace.row ⟨x.1, 0, none⟩ x.2
theorem row_block {b n : Nat} {m : MemPlace} (h : m ∈ MemPlace.row ⟨b, 0, none⟩ n) : m.block = b := by
  unfold MemPlace.row at h
  simp only [List.mem_map] at h
  obtain ⟨i, _, rfl⟩ := h
  rfl
theorem row_nodup (b n : Nat) : (MemPlace.row ⟨b, 0, none⟩ n).Nodup := by
  unfold MemPlace.row
  refine List.Pairwise.map _ (fun i j hij h => ?_) (List.nodup_range (n := n))
  simp at h
  exact hij h
theorem rowsOf_nodup : ∀ {l : List (Nat × Nat)}, (l.map (·.1)).Nodup → (rowsOf l).Nodup
  | [], _ => by simp [rowsOf]
  | x :: r, h => by
    rw [List.map_cons, List.nodup_cons] at h
    have ih := rowsOf_nodup h.2
    show (MemPlace.row ⟨x.1, 0, none⟩ x.2 ++ rowsOf r).Nodup
    rw [List.nodup_append]
    refine ⟨row_nodup _ _, ih, fun a ha b hb hab => ?_⟩
    subst hab
    unfold rowsOf at hb
    rw [List.mem_flatMap] at hb
    obtain ⟨y, hy, hby⟩ := hb
    have h1 := row_block ha
    have h2 := row_block hby
    exact h.1 (List.mem_map.2 ⟨y, hy, by rw [← h2, h1]⟩)
theorem settled_size (os : Os) : (World.settled Tryz.prog os).heap.size = 17 := by kernel_rfl
/-- Where the listed variables lie. -/
def placesL : List (Nat × Nat) := [(9, 32), (10, 64), (7, 20), (2, 32), (6, 1), (17 + 3, 1), (5, 1), (17 + 2, 1), (4, 1), (17 + 1, 3), (17, 21), (3, 256), (1, 256)]
set_option maxRecDepth 100000 in
theorem laid_run (os : Os) (args : Array Value) : DataW.laidRun Tryz.prog ((laidWorld os).forCall (fun _ _ => 0) ⟨#[], args, []⟩).memory 12 (laidL.map (·.1)) = some (laidL, rowsOf placesL) := by kernel_rfl
set_option maxRecDepth 100000 in
theorem laid_rows (os : Os) (args : Array Value) : laidRowsB Tryz.prog ((laidWorld os).forCall (fun _ _ => 0) ⟨#[], args, []⟩).memory (rowsOf placesL) = true := by kernel_rfl
theorem laid_met (os : Os) (args : Array Value) : laidMet Tryz.prog laidL ((laidWorld os).forCall (fun _ _ => 0) ⟨#[], args, []⟩).memory :=
  laidMet_of_run 12 (laid_run os args) (decide_eq_true (rowsOf_nodup (by decide))) (laid_rows os args)
end Go.Proofs.YtkahakhhdiffcaaGreatDoor
