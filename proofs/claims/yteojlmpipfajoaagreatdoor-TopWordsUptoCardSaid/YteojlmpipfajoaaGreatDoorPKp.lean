/- What stays but for some blocks (as in layer 15). -/
import Derived.Test.YteojlmpipfajoaaGreatDoorHeap
namespace Go.Proofs.YteojlmpipfajoaaGreatDoor
set_option linter.unusedVariables false
set_option linter.unusedSimpArgs false
open Go.RowKit

/-- But for the blocks of D, what was there is there. -/
structure Kp (D : List Nat) (w w' : World) : Prop where
  os : w'.os = w.os
  tape : w'.tape = w.tape
  output : w'.output = w.output
  size : w.heap.size ≤ w'.heap.size
  block : ∀ k, k < w.heap.size → k ∉ D → w'.heap[k]? = w.heap[k]?

section
variable {D D' : List Nat} {w w1 w2 : World}
theorem Kp.refl (D : List Nat) (w : World) : Kp D w w := ⟨rfl, rfl, rfl, Nat.le_refl _, fun _ _ _ => rfl⟩
theorem Kp.trans (h : Kp D w w1) (k : Kp D' w1 w2) (hD : ∀ d ∈ D', d ∈ D ∨ w.heap.size ≤ d) : Kp D w w2 :=
  ⟨k.os.trans h.os, k.tape.trans h.tape, k.output.trans h.output, Nat.le_trans h.size k.size, fun b hb hn => (k.block b (Nat.lt_of_lt_of_le hb h.size) (fun hd => by rcases hD b hd with h1 | h1; exact hn h1; omega)).trans (h.block b hb hn)⟩
theorem Kp.alloc (h : Kp D w w1) (o : Obj) : Kp D w (w1.alloc o) :=
  h.trans (D' := []) ⟨rfl, rfl, rfl, by simp, fun k hk _ => Below.heap_alloc _ _ _ hk⟩ (by simp)
theorem Kp.setCell (h : Kp D w w1) (b i : Nat) (u : Value) (hb : b ∈ D ∨ w.heap.size ≤ b) : Kp D w (w1.setCell ⟨b, i, none⟩ u) :=
  h.trans (D' := [b]) ⟨rfl, rfl, rfl, by simp [World.setCell], fun k _ hk => Below.heap_setCell w1 ⟨b, i, none⟩ u k (by simpa using hk)⟩ (by simpa using hb)
theorem Kp.drewN (h : Kp D w w1) (m : Nat) : Kp D w (w1.drewN m) :=
  have hb := below_drewN (Below.refl w1.heap.size w1) m
  h.trans (D' := []) ⟨hb.os, hb.tape, hb.output, hb.size, fun k hk _ => hb.block k hk⟩ (by simp)
theorem Kp.drew (h : Kp D w w1) : Kp D w w1.drew :=
  h.trans (D' := []) ⟨rfl, rfl, rfl, Nat.le_refl _, fun _ _ _ => rfl⟩ (by simp)
theorem Kp.grown (h : Kp D w w1) {row : Option Nat} (hg : w1.grownBy w2 row) (hr : ∀ b, row = some b → b ∈ D ∨ w.heap.size ≤ b) : Kp D w w2 :=
  h.trans (D' := row.toList) ⟨hg.os, hg.tape, hg.output, hg.size, fun k hk hn => hg.block k hk (fun e => hn (by rw [← e]; simp))⟩ (by intro d hd; cases row <;> simp at hd; subst hd; exact hr _ rfl)
theorem Kp.below (h : Kp D w w1) {B : Nat} (hB : B ≤ w.heap.size) (hD : ∀ d ∈ D, B ≤ d) : Below B w w1 :=
  ⟨h.os, h.tape, h.output, h.size, fun k hk => h.block k (by omega) (fun hd => by have := hD k hd; omega)⟩
theorem Kp.mono (h : Kp D w w1) (hD : ∀ d ∈ D, d ∈ D') : Kp D' w w1 := ⟨h.os, h.tape, h.output, h.size, fun k hk hn => h.block k hk (fun hd => hn (hD k hd))⟩
theorem kp_of_below {w w' : World} (h : Below w.heap.size w w') : Kp [] w w' := ⟨h.os, h.tape, h.output, h.size, fun k hk _ => h.block k hk⟩
end

end Go.Proofs.YteojlmpipfajoaaGreatDoor
