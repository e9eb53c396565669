/- The reader of scripts: where it stands; end, joins, parted, ended, closed. -/
import Derived.Test.YteojlmpipfajoaaGreatDoorTwP
import Derived.Test.YteojlmpipfajoaaGreatDoorLRead
import Derived.Test.YteojlmpipfajoaaGreatDoorPKp
import Derived.Test.YteojlmpipfajoaaGreatDoorShelf
import Derived.BigQuiet
import Derived.Deep.QuietTactic
import Derived.Deep.LoopGhost
import Derived.IntWalk
namespace Go.Proofs.YteojlmpipfajoaaGreatDoor
set_option linter.unusedVariables false
set_option linter.unusedSimpArgs false
open Go.RowKit
/-- A reader at a place of a text. -/
def RdO (s : Bs) (i : Nat) : Obj := .cells #[.string ⟨s.toArray⟩, .int .i64 (i : Int), .int .i64 0, .bool true, .bool true, .bool true] 95 (0, 0)
structure Rd (w : World) (rb : Nat) (s : Bs) (i : Nat) : Prop where
  h : w.heap[rb]? = some (RdO s i)
  le : i ≤ s.length
  len : s.length ≤ 100000
section
variable {w w' : World} {rb i : Nat} {s : Bs}
theorem Rd.lt (h : Rd w rb s i) : rb < w.heap.size := (Array.getElem?_eq_some_iff.1 h.h).1
theorem Rd.f (h : Rd w rb s i) : w.cell? ⟨rb, 0, none⟩ = some (.string ⟨s.toArray⟩) ∧ w.cell? ⟨rb, 1, none⟩ = some (.int .i64 (i : Int)) ∧ w.cell? ⟨rb, 3, none⟩ = some (.bool true) ∧ w.cell? ⟨rb, 4, none⟩ = some (.bool true) ∧ w.cell? ⟨rb, 5, none⟩ = some (.bool true) ∧ w.frozen? ⟨rb, 1, none⟩ = false := by
  have h0 := h.h
  unfold RdO at h0
  refine ⟨?_, ?_, ?_, ?_, ?_, by simp [World.frozen?, h0]⟩ <;> (simp only [World.cell?, h0]; rfl)
theorem Rd.below (h : Rd w rb s i) (hb : Below w.heap.size w w') : Rd w' rb s i := ⟨(hb.block _ h.lt).trans h.h, h.le, h.len⟩
theorem Rd.drewN (h : Rd w rb s i) (n : Nat) : Rd (w.drewN n) rb s i := h.below (below_drewN (Below.refl _ _) n)
theorem Rd.kp {D : List Nat} (h : Rd w rb s i) (hk : Kp D w w') (hD : rb ∉ D) : Rd w' rb s i := ⟨(hk.block _ h.lt hD).trans h.h, h.le, h.len⟩
end
section
variable {rb i : Nat} {s : Bs}
theorem end_no {w : World} (h : Rd w rb s i) (hi : i < s.length) : Calls Tryz.prog 47 #[.pointer (some ⟨rb, 0, none⟩)] w fun e w' => e = .returned (.bool false) ∧ ∃ m, w' = w.drewN m := by
  obtain ⟨c0, c1, -, -, -, -⟩ := h.f
  have t1 : decide (s.length ≤ i) = false := by rw [decide_eq_false_iff_not]; omega
  clear h
  go_enter Tryz.func47, Tryz.ntmps47
  go_wp2_with fail
  go_quiet (fail)
  go_wp2_with fail
  go_ret
  exact ⟨rfl, _, rfl⟩
theorem end_yes {w : World} (h : Rd w rb s s.length) : Calls Tryz.prog 47 #[.pointer (some ⟨rb, 0, none⟩)] w fun e w' => e = .returned (.bool true) ∧ ∃ m, w' = w.drewN m := by
  obtain ⟨c0, c1, -, -, -, -⟩ := h.f
  clear h
  go_enter Tryz.func47, Tryz.ntmps47
  go_wp2_with fail
  go_quiet (fail)
  go_wp2_with fail
  go_ret
  exact ⟨by simp, _, rfl⟩
/-- Does a backslash and the line's end stand here? -/
def jnB (s : Bs) (i : Nat) : Bool := Lib.hasPrefix (s.drop i) [92, 10]
theorem joins_any {w : World} (h : Rd w rb s i) : Calls Tryz.prog 64 #[.pointer (some ⟨rb, 0, none⟩)] w fun e w' => e = .returned (.bool (jnB s i)) ∧ ∃ m, w' = w.drewN m := by
  obtain ⟨c0, c1, -, -, -, -⟩ := h.f
  have hle : (i : Int) ≤ (s.length : Int) := by have := h.le; omega
  have h0 : (0 : Int) ≤ (i : Int) := by omega
  have HP := Lib.hid (fun W => Tryz.strings_HasPrefix ⟨(s.drop i).toArray⟩ ⟨#[92, 10]⟩ W)
  clear h
  go_enter Tryz.func64, Tryz.ntmps64
  go_wp2_with fail
  go_quiet ((go_at_call 74; exact Calls.quiet_of_same (HP.out _)))
  go_wp2_with fail
  go_ret
  exact ⟨rfl, _, rfl⟩
end
end Go.Proofs.YteojlmpipfajoaaGreatDoor
