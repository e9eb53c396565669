/- Alike. -/
import Derived.Test.YteojlmpipfajoaaGreatDoorBook8
import Derived.BigQuiet
import Derived.Deep.QuietTactic
namespace Go.Proofs.YteojlmpipfajoaaGreatDoor
set_option linter.unusedVariables false
set_option linter.unusedSimpArgs false
open Go.RowKit Go.MapKept Go.WideMaps
attribute [local go_sem] Oper.semAt_some wide_fn

def alikeC (a b : Bs) : Bool := match readC a, readC b with | some x, some y => alikeP x y | _, _ => false
/-- Whether pairs are told by a dictionary. -/
def toldP (y : Prs) (x : Prs) : Bool := x.all fun p => getP y p.1 == some p.2
theorem toldP_snoc (y x : Prs) (p : Bs × Bs) : toldP y (x ++ [p]) = (toldP y x && (getP y p.1 == some p.2)) := by simp [toldP]
/-- What holds while pairs are compared. -/
structure AlJ (w : World) (b yb : Nat) (F : List Nat) (y pre : Prs) (W : World) : Prop where
  told : toldP y (pre.map clipP) = true
  bk : Bk W b F y
  box : Boxed W yb 87 (.pointer (some ⟨b, 0, none⟩))
  res : Boxed W w.heap.size 4 (.bool false)
  below : Below w.heap.size w W
structure AlX (w : World) (y : Prs) (c : Code) (pre : Prs) (W : World) : Prop where
  ret : c = .ret
  no : toldP y (pre.map clipP) = false
  res : Boxed W w.heap.size 4 (.bool false)
  below : Below w.heap.size w W
/-- A row of a block that is no cells leaves a book as it is, if the map is elsewhere. -/
theorem Bk.grown {W W' : World} {b m B : Nat} {F : List Nat} {ps : Prs} {row : Option Nat} (h : Bk W b F ps) (hm : W.cell? ⟨b, 1, none⟩ = some (.map (some m))) (hmB : m < B) (hg : W.grownBy W' row) (hr : ∀ r, row = some r → B ≤ r ∧ ∃ o : Obj, W.heap[r]? = some o ∧ o.isCells = false) : Bk W' b F ps := by
  have hco := (h.cells_or hm).2
  have key : ∀ d ∈ F, W'.heap[d]? = W.heap[d]? := fun d hd => by
    refine hg.block d (h.lt d hd) (fun e => ?_)
    obtain ⟨hr1, o, ho, hc⟩ := hr d e.symm
    by_cases hdm : d = m
    · omega
    · obtain ⟨c, t, hct⟩ := hco d hd hdm
      rw [hct] at ho; cases ho; cases hc
  exact h.kb (x := b) ⟨key b h.mem, key⟩
theorem Bk.map_at {W : World} {b : Nat} {F : List Nat} {ps : Prs} (h : Bk W b F ps) : ∃ m, W.cell? ⟨b, 1, none⟩ = some (.map (some m)) ∧ m ∈ F := by
  obtain ⟨kv, vv, m, hb, _⟩ := h.ex
  have := (cells3 hb).2.1
  exact ⟨m, this, (h.cells_or this).1⟩
theorem alj_own {w : World} {b yb : Nat} {F : List Nat} {y : Prs} {B : Nat} (hF : ∀ d ∈ F, d < B) (hB : w.heap.size ≤ B) : OwnFrom B (AlJ w b yb F y) := fun pre W W' row h hg hr => by
  have hr' := fun r e => (hr r e).2
  obtain ⟨m, hm, hmF⟩ := h.bk.map_at
  exact ⟨h.told, h.bk.grown hm (hF m hmF) hg hr, boxed_grown h.box hg hr', boxed_grown h.res hg hr', h.below.grown hg h.below.size (fun r e => Nat.le_trans hB (hr r e).1)⟩
theorem alx_own {w : World} {y : Prs} {B : Nat} (hB : w.heap.size ≤ B) (c : Code) : OwnFrom B (AlX w y c) := fun pre W W' row h hg hr => by
  have hr' := fun r e => (hr r e).2
  exact ⟨h.ret, h.no, boxed_grown h.res hg hr', h.below.grown hg h.below.size (fun r e => Nat.le_trans hB (hr r e).1)⟩
theorem boxed_below {W W' : World} {B : Nat} {t : TypeId} {v : Value} (h : Boxed W B t v) (hb : Below W.heap.size W W') : Boxed W' B t v := (hb.block B h.lt).trans h
theorem boxed_drewN {W : World} {B : Nat} {t : TypeId} {v : Value} (h : Boxed W B t v) (n : Nat) : Boxed (W.drewN n) B t v := h
theorem below_box {w w1 w2 : World} {v : Value} {t : TypeId} (h1 : Below (w.alloc (.cells #[v] t)).heap.size (w.alloc (.cells #[v] t)) w1) (h2 : Below w1.heap.size w1 w2) : Below w.heap.size w w2 ∧ Boxed w2 w.heap.size t v := by
  have hB0 : Below w.heap.size w (w.alloc (.cells #[v] t)) := (Below.refl _ w).alloc (Nat.le_refl _) _
  have hb := Boxed.new w t v
  exact ⟨(hB0.trans (h1.mono hB0.size)).trans (h2.mono (Nat.le_trans hB0.size h1.size)), boxed_below (boxed_below hb h1) h2⟩
end Go.Proofs.YteojlmpipfajoaaGreatDoor
