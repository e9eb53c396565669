/- What the rows of this layer's statements list: the tables hold what they were laid with; and one world in which they do. -/
import Derived.Test.YtafohdmhjilleaaDoorCards
import Derived.Test.YtafohdmhjilleaaDoorTie
import Derived.Test.YtafohdmhjilleaaDoorPAwake
import Derived.WalkKit
import Derived.ProofKit
import Derived.OpenShut
import Derived.Deep.DeepHandedRow
import Derived.Lib.LaidTab
import Derived.Lib.LaidU8
import Derived.MakeChecks
import Derived.Deep.DeepWitnessRowRef
namespace Go.Proofs.YtafohdmhjilleaaDoor
set_option linter.unusedVariables false
set_option linter.unusedSimpArgs false
open Go.ChangeShapes Go.WideShapes Go.ChangeAt Go.RowKit

theorem own : ownKnob Tryd.prog.godebug = none := by kernel_rfl
theorem laidOut : laidOutB Tryd.prog = true := by kernel_rfl
/-- The list of all rows of this layer. -/
def laidL : List (String × DataW Unit) := [("unicode/utf8.acceptRanges", Rows.laid_unicode_utf8_acceptRanges), ("unicode/utf8.first", Rows.laid_unicode_utf8_first)]
/-- The numbers of a table's datum, two levels deep. -/
def numOf : DataW Unit → List Value
  | .lit (.int k z) => [Value.int k z]
  | _ => []
def numOf2 : DataW Unit → List Value
  | .agg l => l.flatMap numOf
  | d => numOf d
def numsOf : DataW Unit → Array Value
  | .agg l => (l.flatMap numOf2).toArray
  | _ => #[]
/-- The settled world, the variables holding what their initialisers lay. -/
noncomputable def laidWorld (os : Os) : World :=
  let w0 := World.holding Tryd.prog os ⟨#[], #[], []⟩
  let put (h : Array Obj) (g : Nat) (cs : Array Value) : Array Obj := h.modify g fun
    | .cells _ t frozen => .cells cs t frozen
    | o => o
  let h1 := put w0.heap 2 (numsOf Rows.laid_unicode_utf8_acceptRanges)
  let h2 := put h1 1 (numsOf Rows.laid_unicode_utf8_first)
  { w0 with heap := h2 }
set_option maxRecDepth 100000 in
theorem laid_met (os : Os) (args : Array Value) : laidMet Tryd.prog laidL ((laidWorld os).forCall (fun _ _ => 0) ⟨#[], args, []⟩).memory :=
  laidMet_of_run' 12 (by kernel_rfl) (by kernel_rfl)
theorem max_of {W : World} (h : W.ShapedOpen Tryd.prog) : MaxIs W := by
  obtain ⟨m, hm⟩ := Tryd.laysM143.s1_3 W h
  exact ⟨m, hm⟩
theorem cells1_u8 : Tryd.prog.cellsOf 5 = 1 := by kernel_rfl
/-- A slice of bytes that came in: nil, without elements, or at a block of its own. -/
def Bytes3 (W : World) (v : Value) : Prop := v = .slice none 0 0 ∨ (∃ a cap, v = .slice (some a) 0 cap ∧ cap ≤ maxLen) ∨
  ∃ (cb off n cap : Nat) (z : Nat → Int), v = .slice (some ⟨cb, off, none⟩) n cap ∧ n ≤ cap ∧ cap ≤ maxLen ∧ cb < W.heap.size ∧ (∀ i, i < n → W.cell? ⟨cb, off + i, none⟩ = some (.int .u8 (z i))) ∧ ∀ i, i < n → 0 ≤ z i ∧ z i ≤ 255
set_option maxRecDepth 100000 in
theorem open_bytes3 {H : Type} {enc : TypeId × Value → H} {W : World} {base : Nat} {v : Value} {d : DataW H} {ps : List MemPlace} (hv : Value.okWide Tryd.prog W .any base 22 v) (h : DataW.Trod enc Tryd.prog W 0 (fun _ => true) true 22 v d ps) (hlt : ∀ x ∈ ps, x.block < W.heap.size) : Bytes3 W v := by
  obtain ⟨a1, n, cap, rfl⟩ := okWide_slice Tryd.underlying22 hv
  obtain ⟨fuel, hf⟩ := h
  rcases open_ints Tryd.underlying22 Tryd.underlying5 cells1_u8 hf with ⟨hcs, hx⟩ | ⟨a, len', cap', zs, hcs, _, hl, hm, hz, hx, hcell, hwz⟩
  · simp [Value.cells] at hcs
    obtain ⟨rfl, rfl, rfl⟩ := hcs
    exact .inl rfl
  · simp [Value.cells] at hcs
    obtain ⟨rfl, rfl, rfl⟩ := hcs
    simp only [Prod.mk.injEq] at hx
    obtain ⟨rfl, rfl⟩ := hx
    simp only [if_true] at hz
    right
    rcases Nat.eq_zero_or_pos n with h0 | h0
    · subst h0; exact .inl ⟨_, _, rfl, hm⟩
    · right
      obtain ⟨b, off, spot⟩ := a
      have hspot : spot = none := by simpa [Addr.add] using World.cell?_spot (hcell 0 (by omega))
      subst hspot
      refine ⟨b, off, n, cap, fun i => zs.getD i 0, rfl, hl, hm, hlt (.cell b off) (MemPlace.mem_row.2 ⟨0, by omega, by simp⟩), fun i hi => ?_, fun i hi => ?_⟩
      · have := hcell i (by omega)
        rwa [add_plain] at this
      · have hi' : i < zs.length := by omega
        have hmem : zs.getD i 0 ∈ zs := by
          rw [show zs.getD i 0 = zs[i] by simp [List.getD, hi']]
          exact List.getElem_mem hi'
        have := hwz (zs.getD i 0) hmem
        have e1 : IntKind.u8.min = 0 := rfl
        have e2 : IntKind.u8.max = 255 := rfl
        show 0 ≤ zs.getD i 0 ∧ zs.getD i 0 ≤ 255
        simp only [Lit.wf, Bool.and_eq_true, decide_eq_true_eq, e1, e2] at this
        exact this
end Go.Proofs.YtafohdmhjilleaaDoor
