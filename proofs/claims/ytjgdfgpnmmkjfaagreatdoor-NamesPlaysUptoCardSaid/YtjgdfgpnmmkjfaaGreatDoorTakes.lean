/- The reference's 'takes': whether a part matches a byte. -/
import Derived.Test.YtjgdfgpnmmkjfaaGreatDoorParts
import Derived.Deep.QuietTactic
import Derived.BigQuiet
import Derived.Deep.RegionWith
namespace Go.Proofs.YtjgdfgpnmmkjfaaGreatDoor
set_option linter.unusedVariables false
set_option linter.unusedSimpArgs false
open Go.RowKit

def RP.takes (fold : Bool) (c : UInt8) : RP → Bool
  | .many => false
  | .any => true
  | .none => false
  | .set s => inS s c || fold && (inS s (lowB c) || inS s (upB c))
  | .one d => d == c || fold && lowB d == lowB c

theorem small_b (c : UInt8) (w : World) : Calls Tryz.prog 127 #[.int .u8 c.toNat] w fun e w' => e = .returned (.int .u8 (lowB c).toNat) ∧ w = w' := by
  rw [lowB_toNat]
  exact small_any _ (by omega) (by have := byte_lt c; omega) w
theorem great_b (c : UInt8) (w : World) : Calls Tryz.prog 128 #[.int .u8 c.toNat] w fun e w' => e = .returned (.int .u8 (upB c).toNat) ∧ w = w' := by
  rw [upB_toNat]
  exact great_any _ (by omega) (by have := byte_lt c; omega) w

set_option maxRecDepth 100000 in
set_option maxHeartbeats 1600000 in
theorem takes_any (x : RP) (c : UInt8) (fold : Bool) (hx : ∀ s, x = .set s → s.length ≤ 1000000) (w : World) :
    Calls Tryz.prog 102 #[.agg x.cells.toArray, .int .u8 c.toNat, .bool fold] w fun e w' => e = .returned (.bool (x.takes fold c)) ∧ ∃ m o, w' = (w.alloc o).drewN m := by
  have hc := byte_lt c
  cases x with
  | many =>
    simp only [RP.cells, RP.takes]
    go_enter Tryz.func102, Tryz.ntmps102
    go_wp2_with fail
    go_ret
    exact ⟨rfl, 0, _, rfl⟩
  | any =>
    simp only [RP.cells, RP.takes]
    go_enter Tryz.func102, Tryz.ntmps102
    go_wp2_with fail
    go_ret
    exact ⟨rfl, 0, _, rfl⟩
  | none =>
    simp only [RP.cells, RP.takes]
    go_enter Tryz.func102, Tryz.ntmps102
    go_wp2_with fail
    go_ret
    exact ⟨rfl, 0, _, rfl⟩
  | set s =>
    have hs := hx s rfl
    simp only [RP.cells, RP.takes]
    have hsm := fun W => small_b c W
    have hgr := fun W => great_b c W
    have r1 := fun W => rin_any s c hs W
    have r2 := fun W => rin_any s (lowB c) hs W
    have r3 := fun W => rin_any s (upB c) hs W
    generalize lowB c = lo at *
    generalize upB c = up at *
    generalize inS s c = b1 at *
    generalize inS s lo = b2 at *
    generalize inS s up = b3 at *
    have R1 := Lib.hid r1
    have R2 := Lib.hid r2
    have R3 := Lib.hid r3
    have S1 := Lib.hid hsm
    have S2 := Lib.hid hgr
    clear r1 r2 r3 hsm hgr hx
    cases b1 <;> cases fold <;> cases b2 <;>
      (go_enter Tryz.func102, Tryz.ntmps102
       go_wp2_with fail
       go_quiet (first | (go_at_call 127; exact Calls.quiet_of_same ((S1.out _).mono fun e w' h => ⟨h.1, h.2.symm⟩)) | (go_at_call 128; exact Calls.quiet_of_same ((S2.out _).mono fun e w' h => ⟨h.1, h.2.symm⟩)) | (go_at_call_of 126 lo; exact Calls.quiet_of (R2.out _)) | (go_at_call_of 126 up; exact Calls.quiet_of (R3.out _)) | (go_at_call_of 126 c; exact Calls.quiet_of (R1.out _)))
       go_wp2_with fail
       go_ret
       exact ⟨rfl, _, _, rfl⟩)
  | one d =>
    have hd := byte_lt d
    simp only [RP.cells, RP.takes]
    by_cases hdc : d = c
    · have t1 : ((d.toNat : Int) == c.toNat) = true := by rw [hdc]; exact beq_self_eq_true _
      have hr : (d == c || fold && lowB d == lowB c) = true := by simp [hdc]
      rw [hr]
      clear hr hdc
      go_enter Tryz.func102, Tryz.ntmps102
      go_wp2_with fail
      go_ret
      exact ⟨rfl, 0, _, rfl⟩
    · have t1 : ((d.toNat : Int) == c.toNat) = false := by rw [beq_eq_false_iff_ne]; intro h; exact hdc (byte_inj (by omega))
      have hr : (d == c) = false := by simpa using hdc
      rw [hr]
      clear hr hdc
      cases fold
      · go_enter Tryz.func102, Tryz.ntmps102
        go_wp2_with fail
        go_ret
        exact ⟨rfl, 0, _, rfl⟩
      · have hr2 : (false || true && lowB d == lowB c) = (((lowB d).toNat : Int) == (lowB c).toNat) := by
          rw [Bool.eq_iff_iff]
          simp only [Bool.false_or, Bool.true_and, beq_iff_eq]
          exact ⟨fun h => by rw [h], fun h => byte_inj (by omega)⟩
        rw [hr2]
        clear hr2
        go_enter Tryz.func102, Tryz.ntmps102
        go_wp2_with (go_at_call 127; first | (refine (small_b c _).mono ?_; rintro e w' ⟨rfl, rfl⟩) | (refine (small_b d _).mono ?_; rintro e w' ⟨rfl, rfl⟩))
        go_ret
        exact ⟨rfl, 0, _, rfl⟩
end Go.Proofs.YtjgdfgpnmmkjfaaGreatDoor
