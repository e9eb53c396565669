/- The row of ClockBack: its list, and a world that meets it; a slice of bytes that came in. -/
import Derived.Test.YtkahakhhdiffcaaGreatDoorCReadsRow
import Derived.Lay
namespace Go.Proofs.YtkahakhhdiffcaaGreatDoor
set_option linter.unusedVariables false
set_option linter.unusedSimpArgs false
open Go.ChangeShapes Go.WideShapes Go.ChangeAt Go.RowKit
def laidB : List (String × DataW Unit) := [("math/bits.deBruijn32tab", Rows.laid_math_bits_deBruijn32tab), ("math/bits.deBruijn64tab", Rows.laid_math_bits_deBruijn64tab), ("internal/strconv.uint64pow10", Rows.laid_internal_strconv_uint64pow10), ("unicode/utf8.acceptRanges", Rows.laid_unicode_utf8_acceptRanges), ("strconv.ErrRange", Rows.laid_strconv_ErrRange), ("strconv.ErrSyntax", Rows.laid_strconv_ErrSyntax), ("unicode.White_Space", Rows.laid_unicode_White_Space), ("strings.asciiSpace", Rows.laid_strings_asciiSpace), ("unicode/utf8.first", Rows.laid_unicode_utf8_first)]
theorem plainB_of {W : World} (h : laidMetH Tryz.prog laidB W) : laidMet Tryz.prog laidB W := by
  rw [_root_.Go.MakeChecks.laidMetH_plain Tryz.prog laidB W (by kernel_rfl)] at h
  exact h
theorem spaceB_of {W : World} (h : laidMetH Tryz.prog laidB W) : SpaceIs W :=
  tabIs_of_mem (plainB_of h) (by rw [← space_data]; exact List.mem_of_getElem? (i := 7) rfl) gSpace0 tSpace Tryz.underlying142 Tryz.underlying5 cellsU8 cells256
theorem powB_of {W : World} (h : laidMetH Tryz.prog laidB W) : PowIs W :=
  tabIs_of_mem (plainB_of h) (by rw [← pow_data]; exact List.mem_of_getElem? (i := 2) rfl) gPow2 tPow Tryz.underlying192 Tryz.underlying153 cellsU64 cells20
theorem errB_of {W : World} (h : laidMetH Tryz.prog laidB W) : ErrIs W :=
  ⟨err_mem (plainB_of h) (d := .ptr (.agg [.lit (.string [105, 110, 118, 97, 108, 105, 100, 32, 115, 121, 110, 116, 97, 120])])) (List.mem_of_getElem? (i := 5) rfl) gSyn tSyn,
   err_mem (plainB_of h) (d := .ptr (.agg [.lit (.string [118, 97, 108, 117, 101, 32, 111, 117, 116, 32, 111, 102, 32, 114, 97, 110, 103, 101])])) (List.mem_of_getElem? (i := 4) rfl) gRng tRng⟩
noncomputable def laidWorldB (os : Os) : World := World.laidAll Tryz.prog os laidB
set_option maxRecDepth 100000 in
theorem laidB_met (os : Os) (args : Array Value) : laidMet Tryz.prog laidB ((laidWorldB os).forCall (fun _ _ => 0) ⟨#[], args, []⟩).memory := laidMet_laidAll _ (by kernel_rfl) (by kernel_rfl)
theorem cells1_u8 : Tryz.prog.cellsOf 5 = 1 := cellsU8
/-- A slice of bytes that came in: nil, without elements, or at a block of its own. -/
def Bytes3 (W : World) (v : Value) : Prop := v = .slice none 0 0 ∨ (∃ a cap, v = .slice (some a) 0 cap ∧ cap ≤ maxLen) ∨
  ∃ (cb off n cap : Nat) (z : Nat → Int), v = .slice (some ⟨cb, off, none⟩) n cap ∧ n ≤ cap ∧ cap ≤ maxLen ∧ cb < W.heap.size ∧ (∀ i, i < n → W.cell? ⟨cb, off + i, none⟩ = some (.int .u8 (z i))) ∧ ∀ i, i < n → 0 ≤ z i ∧ z i ≤ 255
set_option maxRecDepth 100000 in
theorem open_bytes3 {H : Type} {enc : TypeId × Value → H} {W : World} {base : Nat} {v : Value} {d : DataW H} {ps : List MemPlace} (hv : Value.okWide Tryz.prog W .any base 27 v) (h : DataW.Trod enc Tryz.prog W 0 (fun _ => true) true 27 v d ps) (hlt : ∀ x ∈ ps, x.block < W.heap.size) : Bytes3 W v := by
  obtain ⟨a1, n, cap, rfl⟩ := okWide_slice Tryz.underlying27 hv
  obtain ⟨fuel, hf⟩ := h
  rcases open_ints Tryz.underlying27 Tryz.underlying5 cells1_u8 hf with ⟨hcs, hx⟩ | ⟨a, len', cap', zs, hcs, _, hl, hm, hz, hx, hcell, hwz⟩
  · simp [Value.cells] at hcs
    obtain ⟨rfl, rfl, rfl⟩ := hcs
    exact .inl rfl
  · simp [Value.cells] at hcs
    obtain ⟨rfl, rfl, rfl⟩ := hcs
    simp only [Prod.mk.injEq] at hx
    obtain ⟨rfl, rfl⟩ := hx
    simp only [if_true] at hz
    right
    rcases Nat.eq_zero_or_pos n with h0 | h0
    · subst h0; exact .inl ⟨_, _, rfl, hm⟩
    · right
      obtain ⟨b, off, spot⟩ := a
      have hspot : spot = none := by simpa [Addr.add] using World.cell?_spot (hcell 0 (by omega))
      subst hspot
      refine ⟨b, off, n, cap, fun i => zs.getD i 0, rfl, hl, hm, hlt (.cell b off) (MemPlace.mem_row.2 ⟨0, by omega, by simp⟩), fun i hi => ?_, fun i hi => ?_⟩
      · have := hcell i (by omega)
        rwa [add_plain] at this
      · have hi' : i < zs.length := by omega
        have hmem : zs.getD i 0 ∈ zs := by
          rw [show zs.getD i 0 = zs[i] by simp [List.getD, hi']]
          exact List.getElem_mem hi'
        have := hwz (zs.getD i 0) hmem
        have e1 : IntKind.u8.min = 0 := rfl
        have e2 : IntKind.u8.max = 255 := rfl
        show 0 ≤ zs.getD i 0 ∧ zs.getD i 0 ≤ 255
        simp only [Lit.wf, Bool.and_eq_true, decide_eq_true_eq, e1, e2] at this
        exact this
end Go.Proofs.YtkahakhhdiffcaaGreatDoor
