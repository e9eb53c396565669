/- Long, awake. -/
import Derived.Test.YteojlmpipfajoaaGreatDoorBookC
namespace Go.Proofs.YteojlmpipfajoaaGreatDoor
set_option linter.unusedVariables false
set_option linter.unusedSimpArgs false
open Go.RowKit Go.MapKept Go.WideMaps

/-- The sum of lengths that 'Long' makes. -/
def longS : List Bs → Nat
  | [] => 0
  | s :: r => s.length + 1 + longS r
theorem longS_append (a b : List Bs) : longS (a ++ b) = longS a + longS b := by
  induction a with
  | nil => simp [longS]
  | cons s r ih => simp only [List.cons_append, longS, ih]; omega
theorem longS_take {ss : List Bs} {k : Nat} (h : k < ss.length) : longS (ss.take (k + 1)) = longS (ss.take k) + ss[k].length + 1 := by
  rw [List.take_succ_eq_append_getElem h, longS_append]
  simp only [longS]; omega
theorem longS_le (ss : List Bs) (k : Nat) : longS (ss.take k) ≤ longS ss := by
  conv => rhs; rw [← List.take_append_drop k ss, longS_append]
  omega
/-- A slice of texts just made. -/
theorem txt_new (w : World) (ss : List Bs) (hl : ss.length ≤ maxLen) : TxtRow (w.alloc (.cells (ss.map sv).toArray 9)) (.slice (some ⟨w.heap.size, 0, none⟩) ss.length ss.length) ss := by
  refine ⟨_, _, rfl, Nat.le_refl _, hl, fun i hi => ⟨_, _, rfl, by simp, ?_⟩⟩
  have h := World.alloc_heap_new w (.cells (ss.map sv).toArray 9)
  simp only [World.cell?, h]
  simp [hi]
/-- What 'awake' asks. -/
theorem awake_can : canonC [97, 32, 49, 32, 98, 32, 50, 32, 97, 32, 51] = ([97, 32, 51, 32, 98, 32, 50], 0) := by decide +kernel
theorem awake_set : setC [] [[120], [121]] [53] = ([120, 32, 123, 121, 32, 53, 125], 0) := by decide +kernel
end Go.Proofs.YteojlmpipfajoaaGreatDoor
