/- Arrays among the arguments, opened; two texts in a row. -/
import Derived.Test.YtkjeccndbdgghaaMap2
import Derived.ProofKit
import Derived.OpenShut
import Derived.ShutString
import Derived.Carry
import Derived.Laws.IdiomArrays
namespace Go.Proofs.Ytkjeccndbdgghaa
open Go.ChangeShapes Go.WideShapes Go.ChangeAt Go.RowKit

theorem pair_row2 (w : World) (p q : Bs) : SRow (w.alloc (.cells #[.string ⟨p.toArray⟩, .string ⟨q.toArray⟩] 9)).heap.size (w.alloc (.cells #[.string ⟨p.toArray⟩, .string ⟨q.toArray⟩] 9)) (some ⟨w.heap.size, 0, none⟩) [p, q] := by
  intro _
  refine ⟨w.heap.size, 0, rfl, by simp, fun i hi => ?_⟩
  have hb := heap_alloc_new w (.cells #[.string ⟨p.toArray⟩, .string ⟨q.toArray⟩] 9)
  simp only [World.cell?, hb]
  match i, hi with
  | 0, _ => rfl
  | 1, _ => rfl

section
variable {P : Program} {w : World} {r : Reach} {base b0 : Nat} {t e : TypeId} {v : Value} {H : Type} {enc : TypeId × Value → H} {spare : Nat → Bool} {held : Bool} {d : DataW H} {ps : List MemPlace}
theorem okWide_array {n : Nat} (ht : P.underlying t = some (.array n e)) (h : Value.okWide P w r base t v) : ∃ cs, v = .agg cs ∧ cs.size = P.cellsOf t := by
  simp only [Value.okWide, ht] at h
  obtain ⟨cs, h1, h2, _⟩ := h
  exact ⟨cs, h1, h2⟩

theorem open_ints3 (ht : P.underlying t = some (.array 3 e)) (he : P.underlying e = some (.int .i64)) (hc : P.cellsOf t = 3) (hce : P.cellsOf e = 1) (hval : Value.okWide P w r b0 t v) (hd : DataW.Trod enc P w base spare held t v d ps) :
    ∃ x0 x1 x2 : Int, v = .agg #[.int .i64 x0, .int .i64 x1, .int .i64 x2] ∧ ps = [] ∧ (Lit.int .i64 x0).wf = true ∧ (Lit.int .i64 x1).wf = true ∧ (Lit.int .i64 x2).wf = true := by
  obtain ⟨cs, rfl, hs⟩ := okWide_array ht hval
  rw [hc] at hs
  obtain ⟨c0, c1, c2, rfl⟩ : ∃ c0 c1 c2, cs = #[c0, c1, c2] := by
    rcases cs with ⟨l⟩
    match l, hs with
    | [a, b, c], _ => exact ⟨a, b, c, rfl⟩
  obtain ⟨fuel, hf⟩ := hd
  obtain ⟨y0, y1, y2, n, hx, h0, h1, h2⟩ := trod_array3 ht hce hf
  obtain ⟨z0, e0, rfl, w0⟩ := DataW.trod_int he h0
  obtain ⟨z1, e1, rfl, w1⟩ := DataW.trod_int he h1
  obtain ⟨z2, e2, rfl, w2⟩ := DataW.trod_int he h2
  simp at e0 e1 e2 hx
  subst e0 e1 e2
  exact ⟨z0, z1, z2, rfl, hx.2, w0, w1, w2⟩
theorem trod_array2 {fuel : Nat} {c0 c1 : Value} {x : DataW H × List MemPlace} (ht : P.underlying t = some (.array 2 e)) (hce : P.cellsOf e = 1)
    (h : DataW.trod enc P w base spare held fuel t [c0, c1] = some x) :
    ∃ y0 y1 n, x = (.agg [y0.1, y1.1], y0.2 ++ y1.2) ∧ DataW.trod enc P w base spare held n e [c0] = some y0 ∧ DataW.trod enc P w base spare held n e [c1] = some y1 := by
  obtain ⟨xs, n, rfl, hx, _, hl, he⟩ := DataW.trod_array ht h
  match xs, hl with
  | [y0, y1], _ =>
    have h0 := he 0 (by omega)
    have h1 := he 1 (by omega)
    simp [hce] at h0 h1
    exact ⟨y0, y1, n, by simpa using hx, h0, h1⟩
theorem open_ints2 (ht : P.underlying t = some (.array 2 e)) (he : P.underlying e = some (.int .i64)) (hc : P.cellsOf t = 2) (hce : P.cellsOf e = 1) (hval : Value.okWide P w r b0 t v) (hd : DataW.Trod enc P w base spare held t v d ps) :
    ∃ x0 x1 : Int, v = .agg #[.int .i64 x0, .int .i64 x1] ∧ ps = [] ∧ (Lit.int .i64 x0).wf = true ∧ (Lit.int .i64 x1).wf = true := by
  obtain ⟨cs, rfl, hs⟩ := okWide_array ht hval
  rw [hc] at hs
  obtain ⟨c0, c1, rfl⟩ : ∃ c0 c1, cs = #[c0, c1] := by
    rcases cs with ⟨l⟩
    match l, hs with
    | [a, b], _ => exact ⟨a, b, rfl⟩
  obtain ⟨fuel, hf⟩ := hd
  obtain ⟨y0, y1, n, hx, h0, h1⟩ := trod_array2 ht hce hf
  obtain ⟨z0, e0, rfl, w0⟩ := DataW.trod_int he h0
  obtain ⟨z1, e1, rfl, w1⟩ := DataW.trod_int he h1
  simp at e0 e1 hx
  subst e0 e1
  exact ⟨z0, z1, rfl, hx.2, w0, w1⟩
theorem open_bools2 (ht : P.underlying t = some (.array 2 e)) (he : P.underlying e = some .bool) (hc : P.cellsOf t = 2) (hce : P.cellsOf e = 1) (hval : Value.okWide P w r b0 t v) (hd : DataW.Trod enc P w base spare held t v d ps) :
    ∃ x0 x1 : Bool, v = .agg #[.bool x0, .bool x1] ∧ ps = [] := by
  obtain ⟨cs, rfl, hs⟩ := okWide_array ht hval
  rw [hc] at hs
  obtain ⟨c0, c1, rfl⟩ : ∃ c0 c1, cs = #[c0, c1] := by
    rcases cs with ⟨l⟩
    match l, hs with
    | [a, b], _ => exact ⟨a, b, rfl⟩
  obtain ⟨fuel, hf⟩ := hd
  obtain ⟨y0, y1, n, hx, h0, h1⟩ := trod_array2 ht hce hf
  obtain ⟨z0, e0, rfl⟩ := DataW.trod_bool he h0
  obtain ⟨z1, e1, rfl⟩ := DataW.trod_bool he h1
  simp at e0 e1 hx
  subst e0 e1
  exact ⟨z0, z1, rfl, hx.2⟩
end
end Go.Proofs.Ytkjeccndbdgghaa
