/- Contracts of the clock's leaves: numbers rounded down, leap years, lengths of months, days before a year, numbers of days. -/
import Derived.Test.YtkahakhhdiffcaaGreatDoorChecked
import Derived.Test.YtkahakhhdiffcaaGreatDoorCPlain
import Derived.Test.YtkahakhhdiffcaaGreatDoorLeaf
import Derived.WalkKit
import Derived.WalkSpells
import Derived.WalkLawsBesides
import Derived.Handy
import Derived.BigQuiet
import Derived.Deep.QuietTactic
import Derived.Lib.Hide
namespace Go.Proofs.YtkahakhhdiffcaaGreatDoor
set_option linter.unusedVariables false
set_option linter.unusedSimpArgs false
open Go.RowKit

def winI (n lo hi : Int) : Bool := decide (lo ≤ n ∧ n ≤ hi)
theorem within_any (n lo hi : Int) (w : World) :
    Calls Tryz.prog 42 #[.int .i64 n, .int .i64 lo, .int .i64 hi] w fun e w' => e = .returned (.bool (winI n lo hi)) ∧ w = w' := by
  go_enter Tryz.func42, Tryz.ntmps42
  go_wp2
  all_goals (go_ret; exact ⟨ret_bool (by unfold winI; rw [Bool.eq_iff_iff]; simp; omega), rfl⟩)
theorem rin_any (n lo hi : Int) (w : World) :
    Calls Tryz.prog 50 #[.int .i64 n, .int .i64 lo, .int .i64 hi] w fun e w' => e = .returned (.bool (winI n lo hi)) ∧ w = w' := by
  go_enter Tryz.func50, Tryz.ntmps50
  go_wp2
  all_goals (go_ret; exact ⟨ret_bool (by unfold winI; rw [Bool.eq_iff_iff]; simp; omega), rfl⟩)

theorem tdown {n d : Int} (h : 0 < d) : (n.tmod d < 0 → n / d = n.tdiv d - 1 ∧ n % d = n.tmod d + d) ∧ (¬ n.tmod d < 0 → n / d = n.tdiv d ∧ n % d = n.tmod d) := by
  have h1 := Int.mul_tdiv_add_tmod n d
  have h2 := Int.tmod_lt_of_pos n h
  have h3 := Int.lt_tmod_of_pos n h
  have h4 := Int.mul_ediv_add_emod n d
  have h5 := Int.emod_nonneg n (show d ≠ 0 by omega)
  have h6 := Int.emod_lt_of_pos n h
  constructor
  · intro h7
    have := (Int.ediv_emod_unique (a := n) (b := d) (r := n.tmod d + d) (q := n.tdiv d - 1) h).2 ⟨by rw [Int.mul_sub]; omega, by omega, by omega⟩
    exact this
  · intro h7
    have := (Int.ediv_emod_unique (a := n) (b := d) (r := n.tmod d) (q := n.tdiv d) h).2 ⟨by omega, by omega, by omega⟩
    exact this

theorem down_any (n d : Int) (hd : 0 < d) (hd2 : d ≤ 1000000) (hn : -1000000000000000 ≤ n) (hn2 : n ≤ 1000000000000000) (w : World) :
    Calls Tryz.prog 20 #[.int .i64 n, .int .i64 d] w fun e w' => e = .returned (.tuple #[.int .i64 (n / d), .int .i64 (n % d)]) ∧ ∃ m, w' = w.drewN m := by
  have h1 := @tdown n d hd
  have h2 := Int.tmod_lt_of_pos n hd
  have h3 := Int.lt_tmod_of_pos n hd
  have h4 := Int.mul_tdiv_add_tmod n d
  have hq : -1000000000000000 ≤ n.tdiv d ∧ n.tdiv d ≤ 1000000000000000 := by
    have h5 := Int.natAbs_tdiv_le_natAbs n d
    omega
  generalize hA : n.tdiv d = q at *
  generalize hB : n.tmod d = r at *
  have hdn : (d == 0) = false := by simp; omega
  go_enter Tryz.func20, Tryz.ntmps20
  go_wp2_with fail
  go_quiet (fail)
  go_wp2_with fail
  all_goals (go_ret2; exact ⟨ret2_ii (by omega) (by omega), _, rfl⟩)
theorem leap_any (y : Int) (h1 : 0 ≤ y) (w : World) :
    Calls Tryz.prog 104 #[.int .i64 y] w fun e w' => e = .returned (.bool (leapI y)) ∧ w = w' := by
  have a1 : y.tmod 4 = y % 4 := Int.tmod_eq_emod_of_nonneg h1
  have a2 : y.tmod 100 = y % 100 := Int.tmod_eq_emod_of_nonneg h1
  have a3 : y.tmod 400 = y % 400 := Int.tmod_eq_emod_of_nonneg h1
  go_enter Tryz.func104, Tryz.ntmps104
  go_wp2
  all_goals (go_ret; exact ⟨ret_bool (by unfold leapI; rw [Bool.eq_iff_iff]; simp_all <;> omega), rfl⟩)
theorem rleap_any (y : Int) (h1 : 0 ≤ y) (w : World) :
    Calls Tryz.prog 55 #[.int .i64 y] w fun e w' => e = .returned (.bool (leapI y)) ∧ w = w' := by
  have a1 : y.tmod 4 = y % 4 := Int.tmod_eq_emod_of_nonneg h1
  have a2 : y.tmod 100 = y % 100 := Int.tmod_eq_emod_of_nonneg h1
  have a3 : y.tmod 400 = y % 400 := Int.tmod_eq_emod_of_nonneg h1
  go_enter Tryz.func55, Tryz.ntmps55
  go_wp2
  all_goals (go_ret; exact ⟨ret_bool (by unfold leapI; rw [Bool.eq_iff_iff]; simp_all <;> omega), rfl⟩)
theorem before_any (y : Int) (h1 : 1 ≤ y) (h2 : y ≤ 1000000) (w : World) :
    Calls Tryz.prog 86 #[.int .i64 y] w fun e w' => e = .returned (.int .i64 (bef y)) ∧ w = w' := by
  have a1 : (y - 1).tdiv 4 = (y - 1) / 4 := Int.tdiv_eq_ediv_of_nonneg (by omega)
  have a2 : (y - 1).tdiv 100 = (y - 1) / 100 := Int.tdiv_eq_ediv_of_nonneg (by omega)
  have a3 : (y - 1).tdiv 400 = (y - 1) / 400 := Int.tdiv_eq_ediv_of_nonneg (by omega)
  go_enter Tryz.func86, Tryz.ntmps86
  go_wp2
  go_ret
  exact ⟨ret_int (by unfold bef; omega), rfl⟩
theorem before_low (y : Int) (h1 : -2 ≤ y) (h2 : y ≤ 0) (w : World) :
    Calls Tryz.prog 86 #[.int .i64 y] w fun e w' => e = .returned (.int .i64 (365 * (y - 1))) ∧ w = w' := by
  have a1 : (y - 1).tdiv 4 = 0 := by
    rcases (show y = -2 ∨ y = -1 ∨ y = 0 by omega) with rfl | rfl | rfl <;> rfl
  have a2 : (y - 1).tdiv 100 = 0 := by
    rcases (show y = -2 ∨ y = -1 ∨ y = 0 by omega) with rfl | rfl | rfl <;> rfl
  have a3 : (y - 1).tdiv 400 = 0 := by
    rcases (show y = -2 ∨ y = -1 ∨ y = 0 by omega) with rfl | rfl | rfl <;> rfl
  go_enter Tryz.func86, Tryz.ntmps86
  go_wp2
  go_ret
  exact ⟨ret_int (by omega), rfl⟩
theorem days_ix0 (w : World) : (Instr.index 129 (.agg #[.int .i64 31, .int .i64 28, .int .i64 31, .int .i64 30, .int .i64 31, .int .i64 30, .int .i64 31, .int .i64 31, .int .i64 30, .int .i64 31, .int .i64 30, .int .i64 31]) (.int .i64 0)).run Tryz.prog w = .ok (.int .i64 31) w := by kernel_rfl
theorem days_ix1 (w : World) : (Instr.index 129 (.agg #[.int .i64 31, .int .i64 28, .int .i64 31, .int .i64 30, .int .i64 31, .int .i64 30, .int .i64 31, .int .i64 31, .int .i64 30, .int .i64 31, .int .i64 30, .int .i64 31]) (.int .i64 1)).run Tryz.prog w = .ok (.int .i64 28) w := by kernel_rfl
theorem days_ix2 (w : World) : (Instr.index 129 (.agg #[.int .i64 31, .int .i64 28, .int .i64 31, .int .i64 30, .int .i64 31, .int .i64 30, .int .i64 31, .int .i64 31, .int .i64 30, .int .i64 31, .int .i64 30, .int .i64 31]) (.int .i64 2)).run Tryz.prog w = .ok (.int .i64 31) w := by kernel_rfl
theorem days_ix3 (w : World) : (Instr.index 129 (.agg #[.int .i64 31, .int .i64 28, .int .i64 31, .int .i64 30, .int .i64 31, .int .i64 30, .int .i64 31, .int .i64 31, .int .i64 30, .int .i64 31, .int .i64 30, .int .i64 31]) (.int .i64 3)).run Tryz.prog w = .ok (.int .i64 30) w := by kernel_rfl
theorem days_ix4 (w : World) : (Instr.index 129 (.agg #[.int .i64 31, .int .i64 28, .int .i64 31, .int .i64 30, .int .i64 31, .int .i64 30, .int .i64 31, .int .i64 31, .int .i64 30, .int .i64 31, .int .i64 30, .int .i64 31]) (.int .i64 4)).run Tryz.prog w = .ok (.int .i64 31) w := by kernel_rfl
theorem days_ix5 (w : World) : (Instr.index 129 (.agg #[.int .i64 31, .int .i64 28, .int .i64 31, .int .i64 30, .int .i64 31, .int .i64 30, .int .i64 31, .int .i64 31, .int .i64 30, .int .i64 31, .int .i64 30, .int .i64 31]) (.int .i64 5)).run Tryz.prog w = .ok (.int .i64 30) w := by kernel_rfl
theorem days_ix6 (w : World) : (Instr.index 129 (.agg #[.int .i64 31, .int .i64 28, .int .i64 31, .int .i64 30, .int .i64 31, .int .i64 30, .int .i64 31, .int .i64 31, .int .i64 30, .int .i64 31, .int .i64 30, .int .i64 31]) (.int .i64 6)).run Tryz.prog w = .ok (.int .i64 31) w := by kernel_rfl
theorem days_ix7 (w : World) : (Instr.index 129 (.agg #[.int .i64 31, .int .i64 28, .int .i64 31, .int .i64 30, .int .i64 31, .int .i64 30, .int .i64 31, .int .i64 31, .int .i64 30, .int .i64 31, .int .i64 30, .int .i64 31]) (.int .i64 7)).run Tryz.prog w = .ok (.int .i64 31) w := by kernel_rfl
theorem days_ix8 (w : World) : (Instr.index 129 (.agg #[.int .i64 31, .int .i64 28, .int .i64 31, .int .i64 30, .int .i64 31, .int .i64 30, .int .i64 31, .int .i64 31, .int .i64 30, .int .i64 31, .int .i64 30, .int .i64 31]) (.int .i64 8)).run Tryz.prog w = .ok (.int .i64 30) w := by kernel_rfl
theorem days_ix9 (w : World) : (Instr.index 129 (.agg #[.int .i64 31, .int .i64 28, .int .i64 31, .int .i64 30, .int .i64 31, .int .i64 30, .int .i64 31, .int .i64 31, .int .i64 30, .int .i64 31, .int .i64 30, .int .i64 31]) (.int .i64 9)).run Tryz.prog w = .ok (.int .i64 31) w := by kernel_rfl
theorem days_ix10 (w : World) : (Instr.index 129 (.agg #[.int .i64 31, .int .i64 28, .int .i64 31, .int .i64 30, .int .i64 31, .int .i64 30, .int .i64 31, .int .i64 31, .int .i64 30, .int .i64 31, .int .i64 30, .int .i64 31]) (.int .i64 10)).run Tryz.prog w = .ok (.int .i64 30) w := by kernel_rfl
theorem days_ix11 (w : World) : (Instr.index 129 (.agg #[.int .i64 31, .int .i64 28, .int .i64 31, .int .i64 30, .int .i64 31, .int .i64 30, .int .i64 31, .int .i64 31, .int .i64 30, .int .i64 31, .int .i64 30, .int .i64 31]) (.int .i64 11)).run Tryz.prog w = .ok (.int .i64 31) w := by kernel_rfl
set_option maxRecDepth 100000 in
set_option maxHeartbeats 1600000 in
theorem days_any (y m : Int) (h1 : 0 ≤ y) (hm : 1 ≤ m) (hm2 : m ≤ 12) (w : World) :
    Calls Tryz.prog 49 #[.int .i64 y, .int .i64 m] w fun e w' => e = .returned (.int .i64 (dim y m)) ∧ w = w' := by
  have HL := Lib.hid (fun W => leap_any y h1 W)
  unfold dim
  rcases m_cases hm hm2 with rfl | rfl | rfl | rfl | rfl | rfl | rfl | rfl | rfl | rfl | rfl | rfl
  · have ix := days_ix0
    go_enter Tryz.func49, Tryz.ntmps49
    go_wp2_with (go_at_call 104; refine (HL.out _).mono ?_; rintro e w' ⟨rfl, rfl⟩)
    all_goals (go_ret; exact ⟨ret_int (by simp_all), rfl⟩)
  · have ix := days_ix1
    go_enter Tryz.func49, Tryz.ntmps49
    go_wp2_with (go_at_call 104; refine (HL.out _).mono ?_; rintro e w' ⟨rfl, rfl⟩)
    all_goals (go_ret; exact ⟨ret_int (by simp_all), rfl⟩)
  · have ix := days_ix2
    go_enter Tryz.func49, Tryz.ntmps49
    go_wp2_with (go_at_call 104; refine (HL.out _).mono ?_; rintro e w' ⟨rfl, rfl⟩)
    all_goals (go_ret; exact ⟨ret_int (by simp_all), rfl⟩)
  · have ix := days_ix3
    go_enter Tryz.func49, Tryz.ntmps49
    go_wp2_with (go_at_call 104; refine (HL.out _).mono ?_; rintro e w' ⟨rfl, rfl⟩)
    all_goals (go_ret; exact ⟨ret_int (by simp_all), rfl⟩)
  · have ix := days_ix4
    go_enter Tryz.func49, Tryz.ntmps49
    go_wp2_with (go_at_call 104; refine (HL.out _).mono ?_; rintro e w' ⟨rfl, rfl⟩)
    all_goals (go_ret; exact ⟨ret_int (by simp_all), rfl⟩)
  · have ix := days_ix5
    go_enter Tryz.func49, Tryz.ntmps49
    go_wp2_with (go_at_call 104; refine (HL.out _).mono ?_; rintro e w' ⟨rfl, rfl⟩)
    all_goals (go_ret; exact ⟨ret_int (by simp_all), rfl⟩)
  · have ix := days_ix6
    go_enter Tryz.func49, Tryz.ntmps49
    go_wp2_with (go_at_call 104; refine (HL.out _).mono ?_; rintro e w' ⟨rfl, rfl⟩)
    all_goals (go_ret; exact ⟨ret_int (by simp_all), rfl⟩)
  · have ix := days_ix7
    go_enter Tryz.func49, Tryz.ntmps49
    go_wp2_with (go_at_call 104; refine (HL.out _).mono ?_; rintro e w' ⟨rfl, rfl⟩)
    all_goals (go_ret; exact ⟨ret_int (by simp_all), rfl⟩)
  · have ix := days_ix8
    go_enter Tryz.func49, Tryz.ntmps49
    go_wp2_with (go_at_call 104; refine (HL.out _).mono ?_; rintro e w' ⟨rfl, rfl⟩)
    all_goals (go_ret; exact ⟨ret_int (by simp_all), rfl⟩)
  · have ix := days_ix9
    go_enter Tryz.func49, Tryz.ntmps49
    go_wp2_with (go_at_call 104; refine (HL.out _).mono ?_; rintro e w' ⟨rfl, rfl⟩)
    all_goals (go_ret; exact ⟨ret_int (by simp_all), rfl⟩)
  · have ix := days_ix10
    go_enter Tryz.func49, Tryz.ntmps49
    go_wp2_with (go_at_call 104; refine (HL.out _).mono ?_; rintro e w' ⟨rfl, rfl⟩)
    all_goals (go_ret; exact ⟨ret_int (by simp_all), rfl⟩)
  · have ix := days_ix11
    go_enter Tryz.func49, Tryz.ntmps49
    go_wp2_with (go_at_call 104; refine (HL.out _).mono ?_; rintro e w' ⟨rfl, rfl⟩)
    all_goals (go_ret; exact ⟨ret_int (by simp_all), rfl⟩)
theorem rlength_any (y m : Int) (h1 : 0 ≤ y) (w : World) :
    Calls Tryz.prog 27 #[.int .i64 y, .int .i64 m] w fun e w' => e = .returned (.int .i64 (dim y m)) ∧ w = w' := by
  have HL := Lib.hid (fun W => rleap_any y h1 W)
  unfold dim
  go_enter Tryz.func27, Tryz.ntmps27
  go_wp2_with (go_at_call 55; refine (HL.out _).mono ?_; rintro e w' ⟨rfl, rfl⟩)
  all_goals (go_ret; exact ⟨ret_int (by simp_all), rfl⟩)
theorem rwhole_any (y : Int) (h1 : 0 ≤ y) (w : World) :
    Calls Tryz.prog 54 #[.int .i64 y] w fun e w' => e = .returned (.int .i64 (365 + leap1 y)) ∧ w = w' := by
  have HL := Lib.hid (fun W => rleap_any y h1 W)
  unfold leap1
  go_enter Tryz.func54, Tryz.ntmps54
  go_wp2_with (go_at_call 55; refine (HL.out _).mono ?_; rintro e w' ⟨rfl, rfl⟩)
  all_goals (go_ret; exact ⟨ret_int (by simp_all), rfl⟩)
def validI (t : Int) : Bool := winI t (-62135596800) 253402300799
theorem valid_any (t : Int) (w : World) :
    Calls Tryz.prog 17 #[.int .i64 t] w fun e w' => e = .returned (.bool (validI t)) ∧ w = w' := by
  go_enter Tryz.func17, Tryz.ntmps17
  go_wp2_with (go_at_call 42; refine (within_any _ _ _ _).mono ?_; rintro e w' ⟨rfl, rfl⟩)
  all_goals (go_ret; exact ⟨rfl, rfl⟩)
theorem rright_any (t : Int) (w : World) :
    Calls Tryz.prog 23 #[.int .i64 t] w fun e w' => e = .returned (.bool (validI t)) ∧ w = w' := by
  go_enter Tryz.func23, Tryz.ntmps23
  go_wp2_with (go_at_call 50; refine (rin_any _ _ _ _).mono ?_; rintro e w' ⟨rfl, rfl⟩)
  all_goals (go_ret; exact ⟨rfl, rfl⟩)
end Go.Proofs.YtkahakhhdiffcaaGreatDoor
