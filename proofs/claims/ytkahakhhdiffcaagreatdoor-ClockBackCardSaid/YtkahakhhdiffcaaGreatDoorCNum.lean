/- Contracts of the clock's leaves: numbers rounded down, leap years, lengths of months, days before a year, numbers of days. Contracts of the clock's numbers of days, both ones, and of the tests of a date. -/
import Derived.Test.YtkahakhhdiffcaaGreatDoorChecked
import Derived.Test.YtkahakhhdiffcaaGreatDoorCPlain
import Derived.Test.YtkahakhhdiffcaaGreatDoorHeap
import Derived.WalkKit
import Derived.WalkSpells
import Derived.WalkLawsBesides
import Derived.Handy
import Derived.BigQuiet
import Derived.Deep.QuietTactic
import Derived.Lib.Hide
import Derived.Deep.RegionWith
namespace Go.Proofs.YtkahakhhdiffcaaGreatDoor
set_option linter.unusedVariables false
set_option linter.unusedSimpArgs false
open Go.RowKit

def winI (n lo hi : Int) : Bool := decide (lo ≤ n ∧ n ≤ hi)
theorem within_any (n lo hi : Int) (w : World) :
    Calls Tryz.prog 42 #[.int .i64 n, .int .i64 lo, .int .i64 hi] w fun e w' => e = .returned (.bool (winI n lo hi)) ∧ w = w' := by
  go_enter Tryz.func42, Tryz.ntmps42
  go_wp2
  all_goals (go_ret; exact ⟨ret_bool (by unfold winI; rw [Bool.eq_iff_iff]; simp; omega), rfl⟩)
theorem rin_any (n lo hi : Int) (w : World) :
    Calls Tryz.prog 50 #[.int .i64 n, .int .i64 lo, .int .i64 hi] w fun e w' => e = .returned (.bool (winI n lo hi)) ∧ w = w' := by
  go_enter Tryz.func50, Tryz.ntmps50
  go_wp2
  all_goals (go_ret; exact ⟨ret_bool (by unfold winI; rw [Bool.eq_iff_iff]; simp; omega), rfl⟩)

theorem tdown {n d : Int} (h : 0 < d) : (n.tmod d < 0 → n / d = n.tdiv d - 1 ∧ n % d = n.tmod d + d) ∧ (¬ n.tmod d < 0 → n / d = n.tdiv d ∧ n % d = n.tmod d) := by
  have h1 := Int.mul_tdiv_add_tmod n d
  have h2 := Int.tmod_lt_of_pos n h
  have h3 := Int.lt_tmod_of_pos n h
  have h4 := Int.mul_ediv_add_emod n d
  have h5 := Int.emod_nonneg n (show d ≠ 0 by omega)
  have h6 := Int.emod_lt_of_pos n h
  constructor
  · intro h7
    have := (Int.ediv_emod_unique (a := n) (b := d) (r := n.tmod d + d) (q := n.tdiv d - 1) h).2 ⟨by rw [Int.mul_sub]; omega, by omega, by omega⟩
    exact this
  · intro h7
    have := (Int.ediv_emod_unique (a := n) (b := d) (r := n.tmod d) (q := n.tdiv d) h).2 ⟨by omega, by omega, by omega⟩
    exact this

theorem down_any (n d : Int) (hd : 0 < d) (hd2 : d ≤ 1000000) (hn : -1000000000000000 ≤ n) (hn2 : n ≤ 1000000000000000) (w : World) :
    Calls Tryz.prog 20 #[.int .i64 n, .int .i64 d] w fun e w' => e = .returned (.tuple #[.int .i64 (n / d), .int .i64 (n % d)]) ∧ ∃ m, w' = w.drewN m := by
  have h1 := @tdown n d hd
  have h2 := Int.tmod_lt_of_pos n hd
  have h3 := Int.lt_tmod_of_pos n hd
  have h4 := Int.mul_tdiv_add_tmod n d
  have hq : -1000000000000000 ≤ n.tdiv d ∧ n.tdiv d ≤ 1000000000000000 := by
    have h5 := Int.natAbs_tdiv_le_natAbs n d
    omega
  generalize hA : n.tdiv d = q at *
  generalize hB : n.tmod d = r at *
  have hdn : (d == 0) = false := by simp; omega
  go_enter Tryz.func20, Tryz.ntmps20
  go_wp2_with fail
  go_quiet (fail)
  go_wp2_with fail
  all_goals (go_ret2; exact ⟨ret2_ii (by omega) (by omega), _, rfl⟩)
theorem leap_any (y : Int) (h1 : 0 ≤ y) (w : World) :
    Calls Tryz.prog 104 #[.int .i64 y] w fun e w' => e = .returned (.bool (leapI y)) ∧ w = w' := by
  have a1 : y.tmod 4 = y % 4 := Int.tmod_eq_emod_of_nonneg h1
  have a2 : y.tmod 100 = y % 100 := Int.tmod_eq_emod_of_nonneg h1
  have a3 : y.tmod 400 = y % 400 := Int.tmod_eq_emod_of_nonneg h1
  go_enter Tryz.func104, Tryz.ntmps104
  go_wp2
  all_goals (go_ret; exact ⟨ret_bool (by unfold leapI; rw [Bool.eq_iff_iff]; simp_all <;> omega), rfl⟩)
theorem rleap_any (y : Int) (h1 : 0 ≤ y) (w : World) :
    Calls Tryz.prog 55 #[.int .i64 y] w fun e w' => e = .returned (.bool (leapI y)) ∧ w = w' := by
  have a1 : y.tmod 4 = y % 4 := Int.tmod_eq_emod_of_nonneg h1
  have a2 : y.tmod 100 = y % 100 := Int.tmod_eq_emod_of_nonneg h1
  have a3 : y.tmod 400 = y % 400 := Int.tmod_eq_emod_of_nonneg h1
  go_enter Tryz.func55, Tryz.ntmps55
  go_wp2
  all_goals (go_ret; exact ⟨ret_bool (by unfold leapI; rw [Bool.eq_iff_iff]; simp_all <;> omega), rfl⟩)
theorem before_any (y : Int) (h1 : 1 ≤ y) (h2 : y ≤ 1000000) (w : World) :
    Calls Tryz.prog 86 #[.int .i64 y] w fun e w' => e = .returned (.int .i64 (bef y)) ∧ w = w' := by
  have a1 : (y - 1).tdiv 4 = (y - 1) / 4 := Int.tdiv_eq_ediv_of_nonneg (by omega)
  have a2 : (y - 1).tdiv 100 = (y - 1) / 100 := Int.tdiv_eq_ediv_of_nonneg (by omega)
  have a3 : (y - 1).tdiv 400 = (y - 1) / 400 := Int.tdiv_eq_ediv_of_nonneg (by omega)
  go_enter Tryz.func86, Tryz.ntmps86
  go_wp2
  go_ret
  exact ⟨ret_int (by unfold bef; omega), rfl⟩
theorem before_low (y : Int) (h1 : -2 ≤ y) (h2 : y ≤ 0) (w : World) :
    Calls Tryz.prog 86 #[.int .i64 y] w fun e w' => e = .returned (.int .i64 (365 * (y - 1))) ∧ w = w' := by
  have a1 : (y - 1).tdiv 4 = 0 := by
    rcases (show y = -2 ∨ y = -1 ∨ y = 0 by omega) with rfl | rfl | rfl <;> rfl
  have a2 : (y - 1).tdiv 100 = 0 := by
    rcases (show y = -2 ∨ y = -1 ∨ y = 0 by omega) with rfl | rfl | rfl <;> rfl
  have a3 : (y - 1).tdiv 400 = 0 := by
    rcases (show y = -2 ∨ y = -1 ∨ y = 0 by omega) with rfl | rfl | rfl <;> rfl
  go_enter Tryz.func86, Tryz.ntmps86
  go_wp2
  go_ret
  exact ⟨ret_int (by omega), rfl⟩
theorem days_ix0 (w : World) : (Instr.index 129 (.agg #[.int .i64 31, .int .i64 28, .int .i64 31, .int .i64 30, .int .i64 31, .int .i64 30, .int .i64 31, .int .i64 31, .int .i64 30, .int .i64 31, .int .i64 30, .int .i64 31]) (.int .i64 0)).run Tryz.prog w = .ok (.int .i64 31) w := by kernel_rfl
theorem days_ix1 (w : World) : (Instr.index 129 (.agg #[.int .i64 31, .int .i64 28, .int .i64 31, .int .i64 30, .int .i64 31, .int .i64 30, .int .i64 31, .int .i64 31, .int .i64 30, .int .i64 31, .int .i64 30, .int .i64 31]) (.int .i64 1)).run Tryz.prog w = .ok (.int .i64 28) w := by kernel_rfl
theorem days_ix2 (w : World) : (Instr.index 129 (.agg #[.int .i64 31, .int .i64 28, .int .i64 31, .int .i64 30, .int .i64 31, .int .i64 30, .int .i64 31, .int .i64 31, .int .i64 30, .int .i64 31, .int .i64 30, .int .i64 31]) (.int .i64 2)).run Tryz.prog w = .ok (.int .i64 31) w := by kernel_rfl
theorem days_ix3 (w : World) : (Instr.index 129 (.agg #[.int .i64 31, .int .i64 28, .int .i64 31, .int .i64 30, .int .i64 31, .int .i64 30, .int .i64 31, .int .i64 31, .int .i64 30, .int .i64 31, .int .i64 30, .int .i64 31]) (.int .i64 3)).run Tryz.prog w = .ok (.int .i64 30) w := by kernel_rfl
theorem days_ix4 (w : World) : (Instr.index 129 (.agg #[.int .i64 31, .int .i64 28, .int .i64 31, .int .i64 30, .int .i64 31, .int .i64 30, .int .i64 31, .int .i64 31, .int .i64 30, .int .i64 31, .int .i64 30, .int .i64 31]) (.int .i64 4)).run Tryz.prog w = .ok (.int .i64 31) w := by kernel_rfl
theorem days_ix5 (w : World) : (Instr.index 129 (.agg #[.int .i64 31, .int .i64 28, .int .i64 31, .int .i64 30, .int .i64 31, .int .i64 30, .int .i64 31, .int .i64 31, .int .i64 30, .int .i64 31, .int .i64 30, .int .i64 31]) (.int .i64 5)).run Tryz.prog w = .ok (.int .i64 30) w := by kernel_rfl
theorem days_ix6 (w : World) : (Instr.index 129 (.agg #[.int .i64 31, .int .i64 28, .int .i64 31, .int .i64 30, .int .i64 31, .int .i64 30, .int .i64 31, .int .i64 31, .int .i64 30, .int .i64 31, .int .i64 30, .int .i64 31]) (.int .i64 6)).run Tryz.prog w = .ok (.int .i64 31) w := by kernel_rfl
theorem days_ix7 (w : World) : (Instr.index 129 (.agg #[.int .i64 31, .int .i64 28, .int .i64 31, .int .i64 30, .int .i64 31, .int .i64 30, .int .i64 31, .int .i64 31, .int .i64 30, .int .i64 31, .int .i64 30, .int .i64 31]) (.int .i64 7)).run Tryz.prog w = .ok (.int .i64 31) w := by kernel_rfl
theorem days_ix8 (w : World) : (Instr.index 129 (.agg #[.int .i64 31, .int .i64 28, .int .i64 31, .int .i64 30, .int .i64 31, .int .i64 30, .int .i64 31, .int .i64 31, .int .i64 30, .int .i64 31, .int .i64 30, .int .i64 31]) (.int .i64 8)).run Tryz.prog w = .ok (.int .i64 30) w := by kernel_rfl
theorem days_ix9 (w : World) : (Instr.index 129 (.agg #[.int .i64 31, .int .i64 28, .int .i64 31, .int .i64 30, .int .i64 31, .int .i64 30, .int .i64 31, .int .i64 31, .int .i64 30, .int .i64 31, .int .i64 30, .int .i64 31]) (.int .i64 9)).run Tryz.prog w = .ok (.int .i64 31) w := by kernel_rfl
theorem days_ix10 (w : World) : (Instr.index 129 (.agg #[.int .i64 31, .int .i64 28, .int .i64 31, .int .i64 30, .int .i64 31, .int .i64 30, .int .i64 31, .int .i64 31, .int .i64 30, .int .i64 31, .int .i64 30, .int .i64 31]) (.int .i64 10)).run Tryz.prog w = .ok (.int .i64 30) w := by kernel_rfl
theorem days_ix11 (w : World) : (Instr.index 129 (.agg #[.int .i64 31, .int .i64 28, .int .i64 31, .int .i64 30, .int .i64 31, .int .i64 30, .int .i64 31, .int .i64 31, .int .i64 30, .int .i64 31, .int .i64 30, .int .i64 31]) (.int .i64 11)).run Tryz.prog w = .ok (.int .i64 31) w := by kernel_rfl
set_option maxRecDepth 100000 in
set_option maxHeartbeats 1600000 in
theorem days_any (y m : Int) (h1 : 0 ≤ y) (hm : 1 ≤ m) (hm2 : m ≤ 12) (w : World) :
    Calls Tryz.prog 49 #[.int .i64 y, .int .i64 m] w fun e w' => e = .returned (.int .i64 (dim y m)) ∧ w = w' := by
  have HL := Lib.hid (fun W => leap_any y h1 W)
  unfold dim
  rcases m_cases hm hm2 with rfl | rfl | rfl | rfl | rfl | rfl | rfl | rfl | rfl | rfl | rfl | rfl
  · have ix := days_ix0
    go_enter Tryz.func49, Tryz.ntmps49
    go_wp2_with (go_at_call 104; refine (HL.out _).mono ?_; rintro e w' ⟨rfl, rfl⟩)
    all_goals (go_ret; exact ⟨ret_int (by simp_all), rfl⟩)
  · have ix := days_ix1
    go_enter Tryz.func49, Tryz.ntmps49
    go_wp2_with (go_at_call 104; refine (HL.out _).mono ?_; rintro e w' ⟨rfl, rfl⟩)
    all_goals (go_ret; exact ⟨ret_int (by simp_all), rfl⟩)
  · have ix := days_ix2
    go_enter Tryz.func49, Tryz.ntmps49
    go_wp2_with (go_at_call 104; refine (HL.out _).mono ?_; rintro e w' ⟨rfl, rfl⟩)
    all_goals (go_ret; exact ⟨ret_int (by simp_all), rfl⟩)
  · have ix := days_ix3
    go_enter Tryz.func49, Tryz.ntmps49
    go_wp2_with (go_at_call 104; refine (HL.out _).mono ?_; rintro e w' ⟨rfl, rfl⟩)
    all_goals (go_ret; exact ⟨ret_int (by simp_all), rfl⟩)
  · have ix := days_ix4
    go_enter Tryz.func49, Tryz.ntmps49
    go_wp2_with (go_at_call 104; refine (HL.out _).mono ?_; rintro e w' ⟨rfl, rfl⟩)
    all_goals (go_ret; exact ⟨ret_int (by simp_all), rfl⟩)
  · have ix := days_ix5
    go_enter Tryz.func49, Tryz.ntmps49
    go_wp2_with (go_at_call 104; refine (HL.out _).mono ?_; rintro e w' ⟨rfl, rfl⟩)
    all_goals (go_ret; exact ⟨ret_int (by simp_all), rfl⟩)
  · have ix := days_ix6
    go_enter Tryz.func49, Tryz.ntmps49
    go_wp2_with (go_at_call 104; refine (HL.out _).mono ?_; rintro e w' ⟨rfl, rfl⟩)
    all_goals (go_ret; exact ⟨ret_int (by simp_all), rfl⟩)
  · have ix := days_ix7
    go_enter Tryz.func49, Tryz.ntmps49
    go_wp2_with (go_at_call 104; refine (HL.out _).mono ?_; rintro e w' ⟨rfl, rfl⟩)
    all_goals (go_ret; exact ⟨ret_int (by simp_all), rfl⟩)
  · have ix := days_ix8
    go_enter Tryz.func49, Tryz.ntmps49
    go_wp2_with (go_at_call 104; refine (HL.out _).mono ?_; rintro e w' ⟨rfl, rfl⟩)
    all_goals (go_ret; exact ⟨ret_int (by simp_all), rfl⟩)
  · have ix := days_ix9
    go_enter Tryz.func49, Tryz.ntmps49
    go_wp2_with (go_at_call 104; refine (HL.out _).mono ?_; rintro e w' ⟨rfl, rfl⟩)
    all_goals (go_ret; exact ⟨ret_int (by simp_all), rfl⟩)
  · have ix := days_ix10
    go_enter Tryz.func49, Tryz.ntmps49
    go_wp2_with (go_at_call 104; refine (HL.out _).mono ?_; rintro e w' ⟨rfl, rfl⟩)
    all_goals (go_ret; exact ⟨ret_int (by simp_all), rfl⟩)
  · have ix := days_ix11
    go_enter Tryz.func49, Tryz.ntmps49
    go_wp2_with (go_at_call 104; refine (HL.out _).mono ?_; rintro e w' ⟨rfl, rfl⟩)
    all_goals (go_ret; exact ⟨ret_int (by simp_all), rfl⟩)
theorem rlength_any (y m : Int) (h1 : 0 ≤ y) (w : World) :
    Calls Tryz.prog 27 #[.int .i64 y, .int .i64 m] w fun e w' => e = .returned (.int .i64 (dim y m)) ∧ w = w' := by
  have HL := Lib.hid (fun W => rleap_any y h1 W)
  unfold dim
  go_enter Tryz.func27, Tryz.ntmps27
  go_wp2_with (go_at_call 55; refine (HL.out _).mono ?_; rintro e w' ⟨rfl, rfl⟩)
  all_goals (go_ret; exact ⟨ret_int (by simp_all), rfl⟩)
theorem rwhole_any (y : Int) (h1 : 0 ≤ y) (w : World) :
    Calls Tryz.prog 54 #[.int .i64 y] w fun e w' => e = .returned (.int .i64 (365 + leap1 y)) ∧ w = w' := by
  have HL := Lib.hid (fun W => rleap_any y h1 W)
  unfold leap1
  go_enter Tryz.func54, Tryz.ntmps54
  go_wp2_with (go_at_call 55; refine (HL.out _).mono ?_; rintro e w' ⟨rfl, rfl⟩)
  all_goals (go_ret; exact ⟨ret_int (by simp_all), rfl⟩)
def validI (t : Int) : Bool := winI t (-62135596800) 253402300799
theorem valid_any (t : Int) (w : World) :
    Calls Tryz.prog 17 #[.int .i64 t] w fun e w' => e = .returned (.bool (validI t)) ∧ w = w' := by
  go_enter Tryz.func17, Tryz.ntmps17
  go_wp2_with (go_at_call 42; refine (within_any _ _ _ _).mono ?_; rintro e w' ⟨rfl, rfl⟩)
  all_goals (go_ret; exact ⟨rfl, rfl⟩)
theorem rright_any (t : Int) (w : World) :
    Calls Tryz.prog 23 #[.int .i64 t] w fun e w' => e = .returned (.bool (validI t)) ∧ w = w' := by
  go_enter Tryz.func23, Tryz.ntmps23
  go_wp2_with (go_at_call 50; refine (rin_any _ _ _ _).mono ?_; rintro e w' ⟨rfl, rfl⟩)
  all_goals (go_ret; exact ⟨rfl, rfl⟩)
end Go.Proofs.YtkahakhhdiffcaaGreatDoor
namespace Go.Proofs.YtkahakhhdiffcaaGreatDoor
set_option linter.unusedVariables false
set_option linter.unusedSimpArgs false
open Go.RowKit

set_option maxHeartbeats 1600000 in
set_option maxRecDepth 100000 in
theorem number_any (y m d : Int) (h1 : 1 ≤ y) (h2 : y ≤ 100000) (hm : 1 ≤ m) (hm2 : m ≤ 12) (hd : -1000000 ≤ d) (hd2 : d ≤ 1000000) (w : World) :
    Calls Tryz.prog 43 #[.int .i64 y, .int .i64 m, .int .i64 d] w fun e w' => e = .returned (.int .i64 (dayNo y m d - 719162)) ∧ w = w' := by
  have hb := bef_far h1
  have hb1 : bef 1 = 0 := by decide
  rw [hb1] at hb
  obtain ⟨Z, hZ⟩ : ∃ Z, bef 1970 = Z := ⟨_, rfl⟩
  have h70 : bef 1970 = 719162 := by decide
  have hZ0 : 0 ≤ Z ∧ Z ≤ 1000000 := by omega
  have HZ : Hid (Z = 719162) := by show _ = _; omega
  have HB := Lib.hid (fun W => before_any y h1 (by omega) W)
  have HB0 := Lib.hid (fun W => before_any 1970 (by omega) (by omega) W)
  rw [hZ] at HB0
  have HD := Lib.hid (fun k (hk : 1 ≤ k) (hk2 : k ≤ 12) W => days_any y k (by omega) hk hk2 W)
  have HN : Hid (∀ k : Int, 1 ≤ k → k ≤ 12 → cum y (k + 1) = cum y k + dim y k) := fun k a b => cum_next y a b
  have HG : Hid (∀ k : Int, 1 ≤ k → k ≤ 12 → 0 ≤ cum y k ∧ cum y k ≤ 366 ∧ 28 ≤ dim y k ∧ dim y k ≤ 31) := by
    intro k a b
    have q1 := cum_mono y (m := 1) (n := k) (by omega) (by omega) (by omega)
    have q2 := cum_mono y (m := k) (n := 13) (by omega) (by omega) (by omega)
    rw [cum_13] at q2
    rw [cum_one] at q1
    have q3 := leap1_le y
    have q4 := dim_ge y k
    omega
  have hc1 : cum y 1 = 0 := rfl
  have HC1 := Lib.hid hc1
  unfold dayNo
  generalize bef y = B at *
  clear hc1 hb1 h70 hZ
  go_enter Tryz.func43, Tryz.ntmps43
  go_wp2_with (first | (go_at_call_of 86 y; refine (HB.out _).mono ?_; rintro e w' ⟨rfl, rfl⟩) | (go_at_call 86; refine (HB0.out _).mono ?_; rintro e w' ⟨rfl, rfl⟩))
  go_loopw [7, 8] (fun v7 v8 wr => ∃ k c : Int, v7 = .int .i64 (B - Z + d - 1 + c) ∧ v8 = .int .i64 k ∧ wr = w ∧ 1 ≤ k ∧ k ≤ m ∧ Hid (c = cum y k) ∧ 0 ≤ c ∧ c ≤ 366) (fun _ v8 _ => (m - intOf v8).toNat)
  case atStart => exact ⟨1, 0, by go_num, rfl, rfl, by omega, by omega, HC1.out.symm, by omega, by omega⟩
  case round =>
    obtain ⟨k, c, rfl, rfl, rfl, hk, hkm, HC, hc0, hc1⟩ := hrel
    by_cases hlt : k < m
    · have hD := Lib.hid (fun W => HD.out k hk (by omega) W)
      have hN := Lib.hid (HN.out k hk (by omega))
      have hG := HG.out k hk (by omega)
      have hG2 := HG.out (k + 1) (by omega) (by omega)
      rw [hN.out, ← HC.out] at hG2
      generalize dim y k = q at *
      go_wp2_with (go_at_call 49; refine (hD.out _).mono ?_; rintro e w' ⟨rfl, rfl⟩)
      go_roundw
      case rel => exact ⟨k + 1, c + q, by go_num, by go_num, by first | trivial | rfl, by omega, by omega, by show _ = _; rw [hN.out, ← HC.out], by omega, by omega⟩
      case measure => simp [intOf]; omega
    · have hkm2 : k = m := by omega
      go_wp2_with fail
      go_ret
      have hz := HZ.out
      exact ⟨ret_int (by rw [← hkm2, ← HC.out]; omega), rfl⟩

set_option maxRecDepth 100000 in
theorem rnumber_any (y m d : Int) (h1 : 1 ≤ y) (h2 : y ≤ 100000) (hm : 1 ≤ m) (hm2 : m ≤ 12) (hd : -1000000 ≤ d) (hd2 : d ≤ 1000000) (w : World) :
    Calls Tryz.prog 94 #[.int .i64 y, .int .i64 m, .int .i64 d] w fun e w' => e = .returned (.int .i64 (dayNo y m d)) ∧ w = w' := by
  have HW := Lib.hid (fun k (hk : 1 ≤ k) W => rwhole_any k (by omega) W)
  have HD := Lib.hid (fun k W => rlength_any y k (by omega) W)
  have HB : Hid (∀ k : Int, 1 ≤ k → k ≤ 100000 → bef (k + 1) = bef k + (365 + leap1 k) ∧ 0 ≤ bef k ∧ bef k ≤ 36600000 ∧ 0 ≤ leap1 k ∧ leap1 k ≤ 1) := by
    intro k a b
    have q1 := bef_next k
    have q2 := bef_far a
    have q3 : bef 1 = 0 := by decide
    have q4 := leap1_le k
    omega
  have HN : Hid (∀ k : Int, 1 ≤ k → k ≤ 12 → cum y (k + 1) = cum y k + dim y k) := fun k a b => cum_next y a b
  have HG : Hid (∀ k : Int, 1 ≤ k → k ≤ 12 → 0 ≤ cum y k ∧ cum y k ≤ 366 ∧ 28 ≤ dim y k ∧ dim y k ≤ 31) := by
    intro k a b
    have q1 := cum_mono y (m := 1) (n := k) (by omega) (by omega) (by omega)
    have q2 := cum_mono y (m := k) (n := 13) (by omega) (by omega) (by omega)
    rw [cum_13] at q2
    rw [cum_one] at q1
    have q3 := leap1_le y
    have q4 := dim_ge y k
    omega
  have HC1 : Hid (cum y 1 = 0) := rfl
  have HB1 : Hid (bef 1 = 0) := by show _ = _; decide
  unfold dayNo
  go_enter Tryz.func94, Tryz.ntmps94
  go_wp2_with fail
  go_loopw [7, 8] (fun v7 v8 wr => ∃ k b : Int, v7 = .int .i64 (d - 1 + b) ∧ v8 = .int .i64 k ∧ wr = w ∧ 1 ≤ k ∧ k ≤ y ∧ Hid (b = bef k) ∧ 0 ≤ b ∧ b ≤ 36600000) (fun _ v8 _ => (y - intOf v8).toNat)
  case atStart => exact ⟨1, 0, by go_num, rfl, rfl, by omega, by omega, HB1.out.symm, by omega, by omega⟩
  case round =>
    obtain ⟨k, b, rfl, rfl, rfl, hk, hky, HB2, hb0, hb1⟩ := hrel
    by_cases hlt : k < y
    · have hW := Lib.hid (fun W => HW.out k hk W)
      have hb := HB.out k hk (by omega)
      have hb2 := HB.out (k + 1) (by omega) (by omega)
      rw [hb.1, ← HB2.out] at hb2
      have hN := Lib.hid hb.1
      replace hb := hb.2
      have hq := leap1_le k
      generalize leap1 k = q at *
      clear hb
      have hb3 := hb2.2.1
      have hb4 := hb2.2.2.1
      clear hb2
      go_wp2_with (go_at_call 54; refine (hW.out _).mono ?_; rintro e w' ⟨rfl, rfl⟩)
      go_roundw
      case rel => exact ⟨k + 1, b + (365 + q), by go_num, by go_num, by first | trivial | rfl, by omega, by omega, by show _ = _; rw [hN.out, ← HB2.out], by omega, by omega⟩
      case measure => simp [intOf]; omega
    · have hky2 : k = y := by omega
      subst hky2
      go_wp2_with fail
      go_loopw [7, 9] (fun v7 v9 w2 => ∃ j c : Int, v7 = .int .i64 (d - 1 + b + c) ∧ v9 = .int .i64 j ∧ w2 = wr ∧ 1 ≤ j ∧ j ≤ m ∧ Hid (c = cum k j) ∧ 0 ≤ c ∧ c ≤ 366) (fun _ v9 _ => (m - intOf v9).toNat)
      case atStart => exact ⟨1, 0, by go_num, rfl, rfl, by omega, by omega, HC1.out.symm, by omega, by omega⟩
      case round =>
        obtain ⟨j, c, rfl, rfl, rfl, hj, hjm, HC, hc0, hc1⟩ := hrel
        by_cases hlt : j < m
        · have hD := Lib.hid (fun W => HD.out j W)
          have hN := Lib.hid (HN.out j hj (by omega))
          have hG := HG.out j hj (by omega)
          have hG2 := HG.out (j + 1) (by omega) (by omega)
          rw [hN.out, ← HC.out] at hG2
          generalize dim k j = q at *
          go_wp2_with (go_at_call 27; refine (hD.out _).mono ?_; rintro e w' ⟨rfl, rfl⟩)
          go_roundw
          case rel => exact ⟨j + 1, c + q, by go_num, by go_num, by first | trivial | rfl, by omega, by omega, by show _ = _; rw [hN.out, ← HC.out], by omega, by omega⟩
          case measure => simp [intOf]; omega
        · have hkm2 : j = m := by omega
          go_wp2_with fail
          go_ret
          exact ⟨ret_int (by rw [← hkm2, ← HC.out, ← HB2.out]; omega), rfl⟩
end Go.Proofs.YtkahakhhdiffcaaGreatDoor
