/- How many bytes a letter takes (the reference): letters with digits, letters with names. Printed by mkCRdC.py. How many bytes a letter takes (the reference): days without a zero, seconds. Printed by mkCRdD.py. -/
import Derived.Test.YtkahakhhdiffcaaGreatDoorCRdB
import Derived.Test.YtkahakhhdiffcaaGreatDoorCRLet
import Derived.Test.YtkahakhhdiffcaaGreatDoorCRd4
namespace Go.Proofs.YtkahakhhdiffcaaGreatDoor
set_option linter.unusedVariables false
set_option linter.unusedSimpArgs false
open Go.RowKit Go.Shelf
def digC (s : Bs) (n : Nat) : Int := if digN s n < n then -1 else (n : Int)
theorem digAt_lt {s : Bs} {n k : Nat} (h : k < digN s n) : digAt s k = true := by
  obtain ⟨h1, h2⟩ := dig_at s n k h
  unfold digAt
  rw [List.getElem?_eq_getElem h1]
  exact h2
theorem digAt_end {s : Bs} {n : Nat} (h : digN s n < n) : digAt s (digN s n) = false := by
  unfold digAt
  by_cases hl : digN s n < s.length
  · rw [List.getElem?_eq_getElem hl]
    exact dig_end s n h hl
  · rw [List.getElem?_eq_none (by omega)]
set_option maxRecDepth 100000 in
set_option maxHeartbeats 1600000 in
theorem taken_89 (s : Bs) (w : World) :
    Calls Tryz.prog 89 #[.int .u8 89, .string ⟨s.toArray⟩] w fun e w' => e = .returned (.int .i64 (digC s 4)) ∧ w = w' := by
  have DG := Lib.hid (fun (i : Nat) W => isDigit_any s i W)
  obtain ⟨R, hR⟩ : ∃ R, digC s 4 = R := ⟨_, rfl⟩
  rw [hR]
  have HR := Lib.hid hR
  clear hR
  have hd := (digN_le s 4).2
  have HA := Lib.hid (fun k (h : k < digN s 4) => digAt_lt h)
  have HE := Lib.hid (fun (h : digN s 4 < 4) => digAt_end h)
  unfold digC at HR
  generalize digN s 4 = d at *
  go_enter Tryz.func89, Tryz.ntmps89
  go_wp2_with fail
  go_loop [7, 90] (fun _ v90 => ∃ k : Nat, k ≤ d ∧ v90 = .int .i64 k) (fun _ v90 => 10 - (intOf v90).toNat)
  case atStart => exact ⟨0, Nat.zero_le _, rfl⟩
  case round =>
    obtain ⟨k, hk, rfl⟩ := hrel
    have hw1 : IntKind.i64.wrap ((k : Int) + 1) = (k : Int) + 1 := IntWalk.i64_in _ (by omega)
    by_cases hkd : k < d
    · have t1 : decide ((k : Int) < 4) = true := by rw [decide_eq_true_eq]; omega
      have DK := Lib.hid (DG.out k)
      rw [HA.out k hkd] at DK
      go_wp2_with (go_at_call 122; refine (DK.out _).mono ?_; rintro e w1 ⟨rfl, rfl⟩)
      go_round
      case rel => exact ⟨k + 1, by omega, by go_num⟩
      case measure => simp [intOf]; omega
    · obtain rfl : k = d := by omega
      by_cases hkn : k < 4
      · have t1 : decide ((k : Int) < 4) = true := by rw [decide_eq_true_eq]; omega
        have DK := Lib.hid (DG.out k)
        rw [HE.out hkn] at DK
        obtain rfl : R = -1 := by have := HR.out; rw [if_pos hkn] at this; exact this.symm
        go_wp2_with (go_at_call 122; refine (DK.out _).mono ?_; rintro e w1 ⟨rfl, rfl⟩)
        go_ret
        exact ⟨rfl, rfl⟩
      · have t1 : decide ((k : Int) < 4) = false := by rw [decide_eq_false_iff_not]; omega
        obtain rfl : R = 4 := by have := HR.out; rw [if_neg hkn] at this; exact this.symm
        go_wp2_with fail
        go_ret
        exact ⟨rfl, rfl⟩
set_option maxRecDepth 100000 in
set_option maxHeartbeats 1600000 in
theorem taken_71 (s : Bs) (w : World) :
    Calls Tryz.prog 89 #[.int .u8 71, .string ⟨s.toArray⟩] w fun e w' => e = .returned (.int .i64 (digC s 4)) ∧ w = w' := by
  have DG := Lib.hid (fun (i : Nat) W => isDigit_any s i W)
  obtain ⟨R, hR⟩ : ∃ R, digC s 4 = R := ⟨_, rfl⟩
  rw [hR]
  have HR := Lib.hid hR
  clear hR
  have hd := (digN_le s 4).2
  have HA := Lib.hid (fun k (h : k < digN s 4) => digAt_lt h)
  have HE := Lib.hid (fun (h : digN s 4 < 4) => digAt_end h)
  unfold digC at HR
  generalize digN s 4 = d at *
  go_enter Tryz.func89, Tryz.ntmps89
  go_wp2_with fail
  go_loop [7, 90] (fun _ v90 => ∃ k : Nat, k ≤ d ∧ v90 = .int .i64 k) (fun _ v90 => 10 - (intOf v90).toNat)
  case atStart => exact ⟨0, Nat.zero_le _, rfl⟩
  case round =>
    obtain ⟨k, hk, rfl⟩ := hrel
    have hw1 : IntKind.i64.wrap ((k : Int) + 1) = (k : Int) + 1 := IntWalk.i64_in _ (by omega)
    by_cases hkd : k < d
    · have t1 : decide ((k : Int) < 4) = true := by rw [decide_eq_true_eq]; omega
      have DK := Lib.hid (DG.out k)
      rw [HA.out k hkd] at DK
      go_wp2_with (go_at_call 122; refine (DK.out _).mono ?_; rintro e w1 ⟨rfl, rfl⟩)
      go_round
      case rel => exact ⟨k + 1, by omega, by go_num⟩
      case measure => simp [intOf]; omega
    · obtain rfl : k = d := by omega
      by_cases hkn : k < 4
      · have t1 : decide ((k : Int) < 4) = true := by rw [decide_eq_true_eq]; omega
        have DK := Lib.hid (DG.out k)
        rw [HE.out hkn] at DK
        obtain rfl : R = -1 := by have := HR.out; rw [if_pos hkn] at this; exact this.symm
        go_wp2_with (go_at_call 122; refine (DK.out _).mono ?_; rintro e w1 ⟨rfl, rfl⟩)
        go_ret
        exact ⟨rfl, rfl⟩
      · have t1 : decide ((k : Int) < 4) = false := by rw [decide_eq_false_iff_not]; omega
        obtain rfl : R = 4 := by have := HR.out; rw [if_neg hkn] at this; exact this.symm
        go_wp2_with fail
        go_ret
        exact ⟨rfl, rfl⟩
set_option maxRecDepth 100000 in
set_option maxHeartbeats 1600000 in
theorem taken_106 (s : Bs) (w : World) :
    Calls Tryz.prog 89 #[.int .u8 106, .string ⟨s.toArray⟩] w fun e w' => e = .returned (.int .i64 (digC s 3)) ∧ w = w' := by
  have DG := Lib.hid (fun (i : Nat) W => isDigit_any s i W)
  obtain ⟨R, hR⟩ : ∃ R, digC s 3 = R := ⟨_, rfl⟩
  rw [hR]
  have HR := Lib.hid hR
  clear hR
  have hd := (digN_le s 3).2
  have HA := Lib.hid (fun k (h : k < digN s 3) => digAt_lt h)
  have HE := Lib.hid (fun (h : digN s 3 < 3) => digAt_end h)
  unfold digC at HR
  generalize digN s 3 = d at *
  go_enter Tryz.func89, Tryz.ntmps89
  go_wp2_with fail
  go_loop [7, 90] (fun _ v90 => ∃ k : Nat, k ≤ d ∧ v90 = .int .i64 k) (fun _ v90 => 10 - (intOf v90).toNat)
  case atStart => exact ⟨0, Nat.zero_le _, rfl⟩
  case round =>
    obtain ⟨k, hk, rfl⟩ := hrel
    have hw1 : IntKind.i64.wrap ((k : Int) + 1) = (k : Int) + 1 := IntWalk.i64_in _ (by omega)
    by_cases hkd : k < d
    · have t1 : decide ((k : Int) < 3) = true := by rw [decide_eq_true_eq]; omega
      have DK := Lib.hid (DG.out k)
      rw [HA.out k hkd] at DK
      go_wp2_with (go_at_call 122; refine (DK.out _).mono ?_; rintro e w1 ⟨rfl, rfl⟩)
      go_round
      case rel => exact ⟨k + 1, by omega, by go_num⟩
      case measure => simp [intOf]; omega
    · obtain rfl : k = d := by omega
      by_cases hkn : k < 3
      · have t1 : decide ((k : Int) < 3) = true := by rw [decide_eq_true_eq]; omega
        have DK := Lib.hid (DG.out k)
        rw [HE.out hkn] at DK
        obtain rfl : R = -1 := by have := HR.out; rw [if_pos hkn] at this; exact this.symm
        go_wp2_with (go_at_call 122; refine (DK.out _).mono ?_; rintro e w1 ⟨rfl, rfl⟩)
        go_ret
        exact ⟨rfl, rfl⟩
      · have t1 : decide ((k : Int) < 3) = false := by rw [decide_eq_false_iff_not]; omega
        obtain rfl : R = 3 := by have := HR.out; rw [if_neg hkn] at this; exact this.symm
        go_wp2_with fail
        go_ret
        exact ⟨rfl, rfl⟩
set_option maxRecDepth 100000 in
set_option maxHeartbeats 1600000 in
theorem taken_117 (s : Bs) (w : World) :
    Calls Tryz.prog 89 #[.int .u8 117, .string ⟨s.toArray⟩] w fun e w' => e = .returned (.int .i64 (digC s 1)) ∧ w = w' := by
  have DG := Lib.hid (fun (i : Nat) W => isDigit_any s i W)
  obtain ⟨R, hR⟩ : ∃ R, digC s 1 = R := ⟨_, rfl⟩
  rw [hR]
  have HR := Lib.hid hR
  clear hR
  have hd := (digN_le s 1).2
  have HA := Lib.hid (fun k (h : k < digN s 1) => digAt_lt h)
  have HE := Lib.hid (fun (h : digN s 1 < 1) => digAt_end h)
  unfold digC at HR
  generalize digN s 1 = d at *
  go_enter Tryz.func89, Tryz.ntmps89
  go_wp2_with fail
  go_loop [7, 90] (fun _ v90 => ∃ k : Nat, k ≤ d ∧ v90 = .int .i64 k) (fun _ v90 => 10 - (intOf v90).toNat)
  case atStart => exact ⟨0, Nat.zero_le _, rfl⟩
  case round =>
    obtain ⟨k, hk, rfl⟩ := hrel
    have hw1 : IntKind.i64.wrap ((k : Int) + 1) = (k : Int) + 1 := IntWalk.i64_in _ (by omega)
    by_cases hkd : k < d
    · have t1 : decide ((k : Int) < 1) = true := by rw [decide_eq_true_eq]; omega
      have DK := Lib.hid (DG.out k)
      rw [HA.out k hkd] at DK
      go_wp2_with (go_at_call 122; refine (DK.out _).mono ?_; rintro e w1 ⟨rfl, rfl⟩)
      go_round
      case rel => exact ⟨k + 1, by omega, by go_num⟩
      case measure => simp [intOf]; omega
    · obtain rfl : k = d := by omega
      by_cases hkn : k < 1
      · have t1 : decide ((k : Int) < 1) = true := by rw [decide_eq_true_eq]; omega
        have DK := Lib.hid (DG.out k)
        rw [HE.out hkn] at DK
        obtain rfl : R = -1 := by have := HR.out; rw [if_pos hkn] at this; exact this.symm
        go_wp2_with (go_at_call 122; refine (DK.out _).mono ?_; rintro e w1 ⟨rfl, rfl⟩)
        go_ret
        exact ⟨rfl, rfl⟩
      · have t1 : decide ((k : Int) < 1) = false := by rw [decide_eq_false_iff_not]; omega
        obtain rfl : R = 1 := by have := HR.out; rw [if_neg hkn] at this; exact this.symm
        go_wp2_with fail
        go_ret
        exact ⟨rfl, rfl⟩
set_option maxRecDepth 100000 in
set_option maxHeartbeats 1600000 in
theorem taken_121 (s : Bs) (w : World) :
    Calls Tryz.prog 89 #[.int .u8 121, .string ⟨s.toArray⟩] w fun e w' => e = .returned (.int .i64 (digC s 2)) ∧ w = w' := by
  have DG := Lib.hid (fun (i : Nat) W => isDigit_any s i W)
  obtain ⟨R, hR⟩ : ∃ R, digC s 2 = R := ⟨_, rfl⟩
  rw [hR]
  have HR := Lib.hid hR
  clear hR
  have hd := (digN_le s 2).2
  have HA := Lib.hid (fun k (h : k < digN s 2) => digAt_lt h)
  have HE := Lib.hid (fun (h : digN s 2 < 2) => digAt_end h)
  unfold digC at HR
  generalize digN s 2 = d at *
  go_enter Tryz.func89, Tryz.ntmps89
  go_wp2_with fail
  go_loop [7, 90] (fun _ v90 => ∃ k : Nat, k ≤ d ∧ v90 = .int .i64 k) (fun _ v90 => 10 - (intOf v90).toNat)
  case atStart => exact ⟨0, Nat.zero_le _, rfl⟩
  case round =>
    obtain ⟨k, hk, rfl⟩ := hrel
    have hw1 : IntKind.i64.wrap ((k : Int) + 1) = (k : Int) + 1 := IntWalk.i64_in _ (by omega)
    by_cases hkd : k < d
    · have t1 : decide ((k : Int) < 2) = true := by rw [decide_eq_true_eq]; omega
      have DK := Lib.hid (DG.out k)
      rw [HA.out k hkd] at DK
      go_wp2_with (go_at_call 122; refine (DK.out _).mono ?_; rintro e w1 ⟨rfl, rfl⟩)
      go_round
      case rel => exact ⟨k + 1, by omega, by go_num⟩
      case measure => simp [intOf]; omega
    · obtain rfl : k = d := by omega
      by_cases hkn : k < 2
      · have t1 : decide ((k : Int) < 2) = true := by rw [decide_eq_true_eq]; omega
        have DK := Lib.hid (DG.out k)
        rw [HE.out hkn] at DK
        obtain rfl : R = -1 := by have := HR.out; rw [if_pos hkn] at this; exact this.symm
        go_wp2_with (go_at_call 122; refine (DK.out _).mono ?_; rintro e w1 ⟨rfl, rfl⟩)
        go_ret
        exact ⟨rfl, rfl⟩
      · have t1 : decide ((k : Int) < 2) = false := by rw [decide_eq_false_iff_not]; omega
        obtain rfl : R = 2 := by have := HR.out; rw [if_neg hkn] at this; exact this.symm
        go_wp2_with fail
        go_ret
        exact ⟨rfl, rfl⟩
set_option maxRecDepth 100000 in
set_option maxHeartbeats 1600000 in
theorem taken_109 (s : Bs) (w : World) :
    Calls Tryz.prog 89 #[.int .u8 109, .string ⟨s.toArray⟩] w fun e w' => e = .returned (.int .i64 (digC s 2)) ∧ w = w' := by
  have DG := Lib.hid (fun (i : Nat) W => isDigit_any s i W)
  obtain ⟨R, hR⟩ : ∃ R, digC s 2 = R := ⟨_, rfl⟩
  rw [hR]
  have HR := Lib.hid hR
  clear hR
  have hd := (digN_le s 2).2
  have HA := Lib.hid (fun k (h : k < digN s 2) => digAt_lt h)
  have HE := Lib.hid (fun (h : digN s 2 < 2) => digAt_end h)
  unfold digC at HR
  generalize digN s 2 = d at *
  go_enter Tryz.func89, Tryz.ntmps89
  go_wp2_with fail
  go_loop [7, 90] (fun _ v90 => ∃ k : Nat, k ≤ d ∧ v90 = .int .i64 k) (fun _ v90 => 10 - (intOf v90).toNat)
  case atStart => exact ⟨0, Nat.zero_le _, rfl⟩
  case round =>
    obtain ⟨k, hk, rfl⟩ := hrel
    have hw1 : IntKind.i64.wrap ((k : Int) + 1) = (k : Int) + 1 := IntWalk.i64_in _ (by omega)
    by_cases hkd : k < d
    · have t1 : decide ((k : Int) < 2) = true := by rw [decide_eq_true_eq]; omega
      have DK := Lib.hid (DG.out k)
      rw [HA.out k hkd] at DK
      go_wp2_with (go_at_call 122; refine (DK.out _).mono ?_; rintro e w1 ⟨rfl, rfl⟩)
      go_round
      case rel => exact ⟨k + 1, by omega, by go_num⟩
      case measure => simp [intOf]; omega
    · obtain rfl : k = d := by omega
      by_cases hkn : k < 2
      · have t1 : decide ((k : Int) < 2) = true := by rw [decide_eq_true_eq]; omega
        have DK := Lib.hid (DG.out k)
        rw [HE.out hkn] at DK
        obtain rfl : R = -1 := by have := HR.out; rw [if_pos hkn] at this; exact this.symm
        go_wp2_with (go_at_call 122; refine (DK.out _).mono ?_; rintro e w1 ⟨rfl, rfl⟩)
        go_ret
        exact ⟨rfl, rfl⟩
      · have t1 : decide ((k : Int) < 2) = false := by rw [decide_eq_false_iff_not]; omega
        obtain rfl : R = 2 := by have := HR.out; rw [if_neg hkn] at this; exact this.symm
        go_wp2_with fail
        go_ret
        exact ⟨rfl, rfl⟩
set_option maxRecDepth 100000 in
set_option maxHeartbeats 1600000 in
theorem taken_100 (s : Bs) (w : World) :
    Calls Tryz.prog 89 #[.int .u8 100, .string ⟨s.toArray⟩] w fun e w' => e = .returned (.int .i64 (digC s 2)) ∧ w = w' := by
  have DG := Lib.hid (fun (i : Nat) W => isDigit_any s i W)
  obtain ⟨R, hR⟩ : ∃ R, digC s 2 = R := ⟨_, rfl⟩
  rw [hR]
  have HR := Lib.hid hR
  clear hR
  have hd := (digN_le s 2).2
  have HA := Lib.hid (fun k (h : k < digN s 2) => digAt_lt h)
  have HE := Lib.hid (fun (h : digN s 2 < 2) => digAt_end h)
  unfold digC at HR
  generalize digN s 2 = d at *
  go_enter Tryz.func89, Tryz.ntmps89
  go_wp2_with fail
  go_loop [7, 90] (fun _ v90 => ∃ k : Nat, k ≤ d ∧ v90 = .int .i64 k) (fun _ v90 => 10 - (intOf v90).toNat)
  case atStart => exact ⟨0, Nat.zero_le _, rfl⟩
  case round =>
    obtain ⟨k, hk, rfl⟩ := hrel
    have hw1 : IntKind.i64.wrap ((k : Int) + 1) = (k : Int) + 1 := IntWalk.i64_in _ (by omega)
    by_cases hkd : k < d
    · have t1 : decide ((k : Int) < 2) = true := by rw [decide_eq_true_eq]; omega
      have DK := Lib.hid (DG.out k)
      rw [HA.out k hkd] at DK
      go_wp2_with (go_at_call 122; refine (DK.out _).mono ?_; rintro e w1 ⟨rfl, rfl⟩)
      go_round
      case rel => exact ⟨k + 1, by omega, by go_num⟩
      case measure => simp [intOf]; omega
    · obtain rfl : k = d := by omega
      by_cases hkn : k < 2
      · have t1 : decide ((k : Int) < 2) = true := by rw [decide_eq_true_eq]; omega
        have DK := Lib.hid (DG.out k)
        rw [HE.out hkn] at DK
        obtain rfl : R = -1 := by have := HR.out; rw [if_pos hkn] at this; exact this.symm
        go_wp2_with (go_at_call 122; refine (DK.out _).mono ?_; rintro e w1 ⟨rfl, rfl⟩)
        go_ret
        exact ⟨rfl, rfl⟩
      · have t1 : decide ((k : Int) < 2) = false := by rw [decide_eq_false_iff_not]; omega
        obtain rfl : R = 2 := by have := HR.out; rw [if_neg hkn] at this; exact this.symm
        go_wp2_with fail
        go_ret
        exact ⟨rfl, rfl⟩
set_option maxRecDepth 100000 in
set_option maxHeartbeats 1600000 in
theorem taken_72 (s : Bs) (w : World) :
    Calls Tryz.prog 89 #[.int .u8 72, .string ⟨s.toArray⟩] w fun e w' => e = .returned (.int .i64 (digC s 2)) ∧ w = w' := by
  have DG := Lib.hid (fun (i : Nat) W => isDigit_any s i W)
  obtain ⟨R, hR⟩ : ∃ R, digC s 2 = R := ⟨_, rfl⟩
  rw [hR]
  have HR := Lib.hid hR
  clear hR
  have hd := (digN_le s 2).2
  have HA := Lib.hid (fun k (h : k < digN s 2) => digAt_lt h)
  have HE := Lib.hid (fun (h : digN s 2 < 2) => digAt_end h)
  unfold digC at HR
  generalize digN s 2 = d at *
  go_enter Tryz.func89, Tryz.ntmps89
  go_wp2_with fail
  go_loop [7, 90] (fun _ v90 => ∃ k : Nat, k ≤ d ∧ v90 = .int .i64 k) (fun _ v90 => 10 - (intOf v90).toNat)
  case atStart => exact ⟨0, Nat.zero_le _, rfl⟩
  case round =>
    obtain ⟨k, hk, rfl⟩ := hrel
    have hw1 : IntKind.i64.wrap ((k : Int) + 1) = (k : Int) + 1 := IntWalk.i64_in _ (by omega)
    by_cases hkd : k < d
    · have t1 : decide ((k : Int) < 2) = true := by rw [decide_eq_true_eq]; omega
      have DK := Lib.hid (DG.out k)
      rw [HA.out k hkd] at DK
      go_wp2_with (go_at_call 122; refine (DK.out _).mono ?_; rintro e w1 ⟨rfl, rfl⟩)
      go_round
      case rel => exact ⟨k + 1, by omega, by go_num⟩
      case measure => simp [intOf]; omega
    · obtain rfl : k = d := by omega
      by_cases hkn : k < 2
      · have t1 : decide ((k : Int) < 2) = true := by rw [decide_eq_true_eq]; omega
        have DK := Lib.hid (DG.out k)
        rw [HE.out hkn] at DK
        obtain rfl : R = -1 := by have := HR.out; rw [if_pos hkn] at this; exact this.symm
        go_wp2_with (go_at_call 122; refine (DK.out _).mono ?_; rintro e w1 ⟨rfl, rfl⟩)
        go_ret
        exact ⟨rfl, rfl⟩
      · have t1 : decide ((k : Int) < 2) = false := by rw [decide_eq_false_iff_not]; omega
        obtain rfl : R = 2 := by have := HR.out; rw [if_neg hkn] at this; exact this.symm
        go_wp2_with fail
        go_ret
        exact ⟨rfl, rfl⟩
set_option maxRecDepth 100000 in
set_option maxHeartbeats 1600000 in
theorem taken_77 (s : Bs) (w : World) :
    Calls Tryz.prog 89 #[.int .u8 77, .string ⟨s.toArray⟩] w fun e w' => e = .returned (.int .i64 (digC s 2)) ∧ w = w' := by
  have DG := Lib.hid (fun (i : Nat) W => isDigit_any s i W)
  obtain ⟨R, hR⟩ : ∃ R, digC s 2 = R := ⟨_, rfl⟩
  rw [hR]
  have HR := Lib.hid hR
  clear hR
  have hd := (digN_le s 2).2
  have HA := Lib.hid (fun k (h : k < digN s 2) => digAt_lt h)
  have HE := Lib.hid (fun (h : digN s 2 < 2) => digAt_end h)
  unfold digC at HR
  generalize digN s 2 = d at *
  go_enter Tryz.func89, Tryz.ntmps89
  go_wp2_with fail
  go_loop [7, 90] (fun _ v90 => ∃ k : Nat, k ≤ d ∧ v90 = .int .i64 k) (fun _ v90 => 10 - (intOf v90).toNat)
  case atStart => exact ⟨0, Nat.zero_le _, rfl⟩
  case round =>
    obtain ⟨k, hk, rfl⟩ := hrel
    have hw1 : IntKind.i64.wrap ((k : Int) + 1) = (k : Int) + 1 := IntWalk.i64_in _ (by omega)
    by_cases hkd : k < d
    · have t1 : decide ((k : Int) < 2) = true := by rw [decide_eq_true_eq]; omega
      have DK := Lib.hid (DG.out k)
      rw [HA.out k hkd] at DK
      go_wp2_with (go_at_call 122; refine (DK.out _).mono ?_; rintro e w1 ⟨rfl, rfl⟩)
      go_round
      case rel => exact ⟨k + 1, by omega, by go_num⟩
      case measure => simp [intOf]; omega
    · obtain rfl : k = d := by omega
      by_cases hkn : k < 2
      · have t1 : decide ((k : Int) < 2) = true := by rw [decide_eq_true_eq]; omega
        have DK := Lib.hid (DG.out k)
        rw [HE.out hkn] at DK
        obtain rfl : R = -1 := by have := HR.out; rw [if_pos hkn] at this; exact this.symm
        go_wp2_with (go_at_call 122; refine (DK.out _).mono ?_; rintro e w1 ⟨rfl, rfl⟩)
        go_ret
        exact ⟨rfl, rfl⟩
      · have t1 : decide ((k : Int) < 2) = false := by rw [decide_eq_false_iff_not]; omega
        obtain rfl : R = 2 := by have := HR.out; rw [if_neg hkn] at this; exact this.symm
        go_wp2_with fail
        go_ret
        exact ⟨rfl, rfl⟩
set_option maxRecDepth 100000 in
set_option maxHeartbeats 1600000 in
theorem taken_83 (s : Bs) (w : World) :
    Calls Tryz.prog 89 #[.int .u8 83, .string ⟨s.toArray⟩] w fun e w' => e = .returned (.int .i64 (digC s 2)) ∧ w = w' := by
  have DG := Lib.hid (fun (i : Nat) W => isDigit_any s i W)
  obtain ⟨R, hR⟩ : ∃ R, digC s 2 = R := ⟨_, rfl⟩
  rw [hR]
  have HR := Lib.hid hR
  clear hR
  have hd := (digN_le s 2).2
  have HA := Lib.hid (fun k (h : k < digN s 2) => digAt_lt h)
  have HE := Lib.hid (fun (h : digN s 2 < 2) => digAt_end h)
  unfold digC at HR
  generalize digN s 2 = d at *
  go_enter Tryz.func89, Tryz.ntmps89
  go_wp2_with fail
  go_loop [7, 90] (fun _ v90 => ∃ k : Nat, k ≤ d ∧ v90 = .int .i64 k) (fun _ v90 => 10 - (intOf v90).toNat)
  case atStart => exact ⟨0, Nat.zero_le _, rfl⟩
  case round =>
    obtain ⟨k, hk, rfl⟩ := hrel
    have hw1 : IntKind.i64.wrap ((k : Int) + 1) = (k : Int) + 1 := IntWalk.i64_in _ (by omega)
    by_cases hkd : k < d
    · have t1 : decide ((k : Int) < 2) = true := by rw [decide_eq_true_eq]; omega
      have DK := Lib.hid (DG.out k)
      rw [HA.out k hkd] at DK
      go_wp2_with (go_at_call 122; refine (DK.out _).mono ?_; rintro e w1 ⟨rfl, rfl⟩)
      go_round
      case rel => exact ⟨k + 1, by omega, by go_num⟩
      case measure => simp [intOf]; omega
    · obtain rfl : k = d := by omega
      by_cases hkn : k < 2
      · have t1 : decide ((k : Int) < 2) = true := by rw [decide_eq_true_eq]; omega
        have DK := Lib.hid (DG.out k)
        rw [HE.out hkn] at DK
        obtain rfl : R = -1 := by have := HR.out; rw [if_pos hkn] at this; exact this.symm
        go_wp2_with (go_at_call 122; refine (DK.out _).mono ?_; rintro e w1 ⟨rfl, rfl⟩)
        go_ret
        exact ⟨rfl, rfl⟩
      · have t1 : decide ((k : Int) < 2) = false := by rw [decide_eq_false_iff_not]; omega
        obtain rfl : R = 2 := by have := HR.out; rw [if_neg hkn] at this; exact this.symm
        go_wp2_with fail
        go_ret
        exact ⟨rfl, rfl⟩
set_option maxRecDepth 100000 in
set_option maxHeartbeats 1600000 in
theorem taken_73 (s : Bs) (w : World) :
    Calls Tryz.prog 89 #[.int .u8 73, .string ⟨s.toArray⟩] w fun e w' => e = .returned (.int .i64 (digC s 2)) ∧ w = w' := by
  have DG := Lib.hid (fun (i : Nat) W => isDigit_any s i W)
  obtain ⟨R, hR⟩ : ∃ R, digC s 2 = R := ⟨_, rfl⟩
  rw [hR]
  have HR := Lib.hid hR
  clear hR
  have hd := (digN_le s 2).2
  have HA := Lib.hid (fun k (h : k < digN s 2) => digAt_lt h)
  have HE := Lib.hid (fun (h : digN s 2 < 2) => digAt_end h)
  unfold digC at HR
  generalize digN s 2 = d at *
  go_enter Tryz.func89, Tryz.ntmps89
  go_wp2_with fail
  go_loop [7, 90] (fun _ v90 => ∃ k : Nat, k ≤ d ∧ v90 = .int .i64 k) (fun _ v90 => 10 - (intOf v90).toNat)
  case atStart => exact ⟨0, Nat.zero_le _, rfl⟩
  case round =>
    obtain ⟨k, hk, rfl⟩ := hrel
    have hw1 : IntKind.i64.wrap ((k : Int) + 1) = (k : Int) + 1 := IntWalk.i64_in _ (by omega)
    by_cases hkd : k < d
    · have t1 : decide ((k : Int) < 2) = true := by rw [decide_eq_true_eq]; omega
      have DK := Lib.hid (DG.out k)
      rw [HA.out k hkd] at DK
      go_wp2_with (go_at_call 122; refine (DK.out _).mono ?_; rintro e w1 ⟨rfl, rfl⟩)
      go_round
      case rel => exact ⟨k + 1, by omega, by go_num⟩
      case measure => simp [intOf]; omega
    · obtain rfl : k = d := by omega
      by_cases hkn : k < 2
      · have t1 : decide ((k : Int) < 2) = true := by rw [decide_eq_true_eq]; omega
        have DK := Lib.hid (DG.out k)
        rw [HE.out hkn] at DK
        obtain rfl : R = -1 := by have := HR.out; rw [if_pos hkn] at this; exact this.symm
        go_wp2_with (go_at_call 122; refine (DK.out _).mono ?_; rintro e w1 ⟨rfl, rfl⟩)
        go_ret
        exact ⟨rfl, rfl⟩
      · have t1 : decide ((k : Int) < 2) = false := by rw [decide_eq_false_iff_not]; omega
        obtain rfl : R = 2 := by have := HR.out; rw [if_neg hkn] at this; exact this.symm
        go_wp2_with fail
        go_ret
        exact ⟨rfl, rfl⟩
set_option maxRecDepth 100000 in
set_option maxHeartbeats 1600000 in
theorem taken_86 (s : Bs) (w : World) :
    Calls Tryz.prog 89 #[.int .u8 86, .string ⟨s.toArray⟩] w fun e w' => e = .returned (.int .i64 (digC s 2)) ∧ w = w' := by
  have DG := Lib.hid (fun (i : Nat) W => isDigit_any s i W)
  obtain ⟨R, hR⟩ : ∃ R, digC s 2 = R := ⟨_, rfl⟩
  rw [hR]
  have HR := Lib.hid hR
  clear hR
  have hd := (digN_le s 2).2
  have HA := Lib.hid (fun k (h : k < digN s 2) => digAt_lt h)
  have HE := Lib.hid (fun (h : digN s 2 < 2) => digAt_end h)
  unfold digC at HR
  generalize digN s 2 = d at *
  go_enter Tryz.func89, Tryz.ntmps89
  go_wp2_with fail
  go_loop [7, 90] (fun _ v90 => ∃ k : Nat, k ≤ d ∧ v90 = .int .i64 k) (fun _ v90 => 10 - (intOf v90).toNat)
  case atStart => exact ⟨0, Nat.zero_le _, rfl⟩
  case round =>
    obtain ⟨k, hk, rfl⟩ := hrel
    have hw1 : IntKind.i64.wrap ((k : Int) + 1) = (k : Int) + 1 := IntWalk.i64_in _ (by omega)
    by_cases hkd : k < d
    · have t1 : decide ((k : Int) < 2) = true := by rw [decide_eq_true_eq]; omega
      have DK := Lib.hid (DG.out k)
      rw [HA.out k hkd] at DK
      go_wp2_with (go_at_call 122; refine (DK.out _).mono ?_; rintro e w1 ⟨rfl, rfl⟩)
      go_round
      case rel => exact ⟨k + 1, by omega, by go_num⟩
      case measure => simp [intOf]; omega
    · obtain rfl : k = d := by omega
      by_cases hkn : k < 2
      · have t1 : decide ((k : Int) < 2) = true := by rw [decide_eq_true_eq]; omega
        have DK := Lib.hid (DG.out k)
        rw [HE.out hkn] at DK
        obtain rfl : R = -1 := by have := HR.out; rw [if_pos hkn] at this; exact this.symm
        go_wp2_with (go_at_call 122; refine (DK.out _).mono ?_; rintro e w1 ⟨rfl, rfl⟩)
        go_ret
        exact ⟨rfl, rfl⟩
      · have t1 : decide ((k : Int) < 2) = false := by rw [decide_eq_false_iff_not]; omega
        obtain rfl : R = 2 := by have := HR.out; rw [if_neg hkn] at this; exact this.symm
        go_wp2_with fail
        go_ret
        exact ⟨rfl, rfl⟩
set_option maxRecDepth 100000 in
set_option maxHeartbeats 1600000 in
theorem taken_112 (s : Bs) (hs : s.length ≤ 1000000) (w : World) :
    Calls Tryz.prog 89 #[.int .u8 112, .string ⟨s.toArray⟩] w fun e w' => e = .returned (.int .i64 (namedC s [[65, 77], [80, 77]] 2)) ∧ Below w.heap.size w w' := by
  have HN := Lib.hid (named_any s hs [[65, 77], [80, 77]] (by decide) (by decide) 2 (by decide) w.heap.size 2 _ (pm_new w) (by simp))
  have HB := Lib.hid (below_alloc1 w (.cells #[.string ⟨#[65, 77]⟩, .string ⟨#[80, 77]⟩] 9))
  generalize namedC s [[65, 77], [80, 77]] 2 = R at *
  go_enter Tryz.func89, Tryz.ntmps89
  go_wp2_with (go_at_call 123; refine HN.out.mono ?_; rintro e w2 ⟨rfl, hb2⟩)
  go_ret
  exact ⟨rfl, HB.out.trans (hb2.mono HB.out.size)⟩
set_option maxRecDepth 100000 in
set_option maxHeartbeats 1600000 in
theorem taken_66 (s : Bs) (hs : s.length ≤ 1000000) (w : World) :
    Calls Tryz.prog 89 #[.int .u8 66, .string ⟨s.toArray⟩] w fun e w' => e = .returned (.int .i64 (namedC s monthsL 99)) ∧ Below w.heap.size w w' := by
  have HN : Hid (∀ W b cap, SRow W b monthsL → b < W.heap.size → Calls Tryz.prog 123 #[.string ⟨s.toArray⟩, .slice (some ⟨b, 0, none⟩) 12 cap, .int .i64 99] W fun e w' => e = .returned (.int .i64 (namedC s monthsL 99)) ∧ Below W.heap.size W w') := fun W b cap h1 h2 => named_any s hs monthsL (by decide) (by decide) 99 (by decide) b cap W h1 h2
  generalize namedC s monthsL 99 = R at *
  go_enter Tryz.func89, Tryz.ntmps89
  go_wp2_with (first | (go_at_call 99; refine (rmonths_any _).mono ?_; rintro e w1 ⟨rfl, hrow, hb1⟩; have hlt1 := cell_lt (hrow 0 _ rfl); have HB1 := Lib.hid hb1; clear hb1) | (go_at_call 123; refine (HN.out _ _ _ hrow hlt1).mono ?_; rintro e w2 ⟨rfl, hb2⟩; have HB2 := Lib.hid (HB1.out.trans (hb2.mono HB1.out.size)); clear hb2))
  go_ret
  exact ⟨rfl, HB2.out⟩
set_option maxRecDepth 100000 in
set_option maxHeartbeats 1600000 in
theorem taken_98 (s : Bs) (hs : s.length ≤ 1000000) (w : World) :
    Calls Tryz.prog 89 #[.int .u8 98, .string ⟨s.toArray⟩] w fun e w' => e = .returned (.int .i64 (namedC s monthsL 3)) ∧ Below w.heap.size w w' := by
  have HN : Hid (∀ W b cap, SRow W b monthsL → b < W.heap.size → Calls Tryz.prog 123 #[.string ⟨s.toArray⟩, .slice (some ⟨b, 0, none⟩) 12 cap, .int .i64 3] W fun e w' => e = .returned (.int .i64 (namedC s monthsL 3)) ∧ Below W.heap.size W w') := fun W b cap h1 h2 => named_any s hs monthsL (by decide) (by decide) 3 (by decide) b cap W h1 h2
  generalize namedC s monthsL 3 = R at *
  go_enter Tryz.func89, Tryz.ntmps89
  go_wp2_with (first | (go_at_call 99; refine (rmonths_any _).mono ?_; rintro e w1 ⟨rfl, hrow, hb1⟩; have hlt1 := cell_lt (hrow 0 _ rfl); have HB1 := Lib.hid hb1; clear hb1) | (go_at_call 123; refine (HN.out _ _ _ hrow hlt1).mono ?_; rintro e w2 ⟨rfl, hb2⟩; have HB2 := Lib.hid (HB1.out.trans (hb2.mono HB1.out.size)); clear hb2))
  go_ret
  exact ⟨rfl, HB2.out⟩
set_option maxRecDepth 100000 in
set_option maxHeartbeats 1600000 in
theorem taken_65 (s : Bs) (hs : s.length ≤ 1000000) (w : World) :
    Calls Tryz.prog 89 #[.int .u8 65, .string ⟨s.toArray⟩] w fun e w' => e = .returned (.int .i64 (namedC s weekdaysL 99)) ∧ Below w.heap.size w w' := by
  have HN : Hid (∀ W b cap, SRow W b weekdaysL → b < W.heap.size → Calls Tryz.prog 123 #[.string ⟨s.toArray⟩, .slice (some ⟨b, 0, none⟩) 7 cap, .int .i64 99] W fun e w' => e = .returned (.int .i64 (namedC s weekdaysL 99)) ∧ Below W.heap.size W w') := fun W b cap h1 h2 => named_any s hs weekdaysL (by decide) (by decide) 99 (by decide) b cap W h1 h2
  generalize namedC s weekdaysL 99 = R at *
  go_enter Tryz.func89, Tryz.ntmps89
  go_wp2_with (first | (go_at_call 100; refine (rweekdays_any _).mono ?_; rintro e w1 ⟨rfl, hrow, hb1⟩; have hlt1 := cell_lt (hrow 0 _ rfl); have HB1 := Lib.hid hb1; clear hb1) | (go_at_call 123; refine (HN.out _ _ _ hrow hlt1).mono ?_; rintro e w2 ⟨rfl, hb2⟩; have HB2 := Lib.hid (HB1.out.trans (hb2.mono HB1.out.size)); clear hb2))
  go_ret
  exact ⟨rfl, HB2.out⟩
set_option maxRecDepth 100000 in
set_option maxHeartbeats 1600000 in
theorem taken_97 (s : Bs) (hs : s.length ≤ 1000000) (w : World) :
    Calls Tryz.prog 89 #[.int .u8 97, .string ⟨s.toArray⟩] w fun e w' => e = .returned (.int .i64 (namedC s weekdaysL 3)) ∧ Below w.heap.size w w' := by
  have HN : Hid (∀ W b cap, SRow W b weekdaysL → b < W.heap.size → Calls Tryz.prog 123 #[.string ⟨s.toArray⟩, .slice (some ⟨b, 0, none⟩) 7 cap, .int .i64 3] W fun e w' => e = .returned (.int .i64 (namedC s weekdaysL 3)) ∧ Below W.heap.size W w') := fun W b cap h1 h2 => named_any s hs weekdaysL (by decide) (by decide) 3 (by decide) b cap W h1 h2
  generalize namedC s weekdaysL 3 = R at *
  go_enter Tryz.func89, Tryz.ntmps89
  go_wp2_with (first | (go_at_call 100; refine (rweekdays_any _).mono ?_; rintro e w1 ⟨rfl, hrow, hb1⟩; have hlt1 := cell_lt (hrow 0 _ rfl); have HB1 := Lib.hid hb1; clear hb1) | (go_at_call 123; refine (HN.out _ _ _ hrow hlt1).mono ?_; rintro e w2 ⟨rfl, hb2⟩; have HB2 := Lib.hid (HB1.out.trans (hb2.mono HB1.out.size)); clear hb2))
  go_ret
  exact ⟨rfl, HB2.out⟩
end Go.Proofs.YtkahakhhdiffcaaGreatDoor
namespace Go.Proofs.YtkahakhhdiffcaaGreatDoor
set_option linter.unusedVariables false
set_option linter.unusedSimpArgs false
open Go.RowKit Go.Shelf
def takenE (s : Bs) : Int := if digAt s 0 = true then (if s[0]? ≠ some 48 ∧ digAt s 1 = true then 2 else 1) else -1
set_option maxRecDepth 100000 in
set_option maxHeartbeats 1600000 in
theorem taken_101 (s : Bs) (w : World) :
    Calls Tryz.prog 89 #[.int .u8 101, .string ⟨s.toArray⟩] w fun e w' => e = .returned (.int .i64 (takenE s)) ∧ w = w' := by
  have D0 : Hid (∀ W, Calls Tryz.prog 122 #[.string ⟨s.toArray⟩, .int .i64 0] W fun e w' => e = .returned (.bool (digAt s 0)) ∧ W = w') := fun W => isDigit_any s 0 W
  have D1 : Hid (∀ W, Calls Tryz.prog 122 #[.string ⟨s.toArray⟩, .int .i64 1] W fun e w' => e = .returned (.bool (digAt s 1)) ∧ W = w') := fun W => isDigit_any s 1 W
  have hn : digAt s 0 = true → 0 < s.length := by
    intro h
    cases s with
    | nil => cases h
    | cons => simp
  unfold takenE
  cases h0 : digAt s 0 with
  | false =>
    rw [if_neg (by decide)]
    rw [h0] at D0
    clear hn D1 h0
    go_enter Tryz.func89, Tryz.ntmps89
    go_wp2_with (go_at_call 122; refine (D0.out _).mono ?_; rintro e w1 ⟨rfl, rfl⟩)
    go_loop [7, 90] (fun _ v90 => v90 = .int .i64 0) (fun _ _ => 0)
    case atStart => rfl
    case round =>
      obtain rfl := hrel
      go_wp2_with (go_at_call 122; refine (D0.out _).mono ?_; rintro e w1 ⟨rfl, rfl⟩)
      go_ret
      exact ⟨rfl, rfl⟩
  | true =>
    rw [if_pos rfl]
    rw [h0] at D0
    have hl := hn h0
    have hli : (0 : Int) < (s.length : Int) := by omega
    have hx : s[0]? = some s[0] := List.getElem?_eq_getElem hl
    rw [hx]
    clear hn h0 hx
    by_cases ha : s[0] = 48
    · have a48 : (((s[0].toNat : Int)) == 48) = true := by rw [ha]; rfl
      have a48n : (((s[0].toNat : Int)) != 48) = false := by rw [ha]; rfl
      rw [if_neg (fun h => h.1 (by rw [ha]))]
      clear ha D1
      have E0 := D0
      go_enter Tryz.func89, Tryz.ntmps89
      go_wp2_with ((go_at_call 122; have HQ := D0; clear D0; refine (HQ.out _).mono ?_; clear HQ; rintro e w1 ⟨rfl, rfl⟩))
      go_loop [7, 90] (fun _ v90 => v90 = .int .i64 0 ∨ v90 = .int .i64 1) (fun _ v90 => 5 - (intOf v90).toNat)
      case atStart => exact .inl rfl
      case round =>
        obtain rfl | rfl := hrel
        · go_wp2_with (go_at_call 122; refine (E0.out _).mono ?_; rintro e w1 ⟨rfl, rfl⟩)
          go_round
          case rel => exact .inr rfl
          case measure => simp [intOf]
        · go_wp2_with fail
          go_ret
          exact ⟨rfl, rfl⟩
    · have a48 : (((s[0].toNat : Int)) == 48) = false := by simpa using u8_ne (a := s[0]) (k := 48) (by omega) ha
      have a48n : (((s[0].toNat : Int)) != 48) = true := by rw [bne, a48]; rfl
      cases h1 : digAt s 1 with
      | false =>
        rw [if_neg (by simp)]
        rw [h1] at D1
        clear ha h1
        have E0 := D0
        go_enter Tryz.func89, Tryz.ntmps89
        go_wp2_with (first | (go_at_call 122; have HQ := D0; clear D0; refine (HQ.out _).mono ?_; clear HQ; rintro e w1 ⟨rfl, rfl⟩) | (go_at_call 122; refine (D1.out _).mono ?_; rintro e w1 ⟨rfl, rfl⟩))
        go_loop [7, 90] (fun _ v90 => v90 = .int .i64 0 ∨ v90 = .int .i64 1) (fun _ v90 => 5 - (intOf v90).toNat)
        case atStart => exact .inl rfl
        case round =>
          obtain rfl | rfl := hrel
          · go_wp2_with (go_at_call 122; refine (E0.out _).mono ?_; rintro e w1 ⟨rfl, rfl⟩)
            go_round
            case rel => exact .inr rfl
            case measure => simp [intOf]
          · go_wp2_with fail
            go_ret
            exact ⟨rfl, rfl⟩
      | true =>
        rw [if_pos ⟨by simpa using ha, rfl⟩]
        rw [h1] at D1
        clear ha h1
        have E0 := D0
        go_enter Tryz.func89, Tryz.ntmps89
        go_wp2_with (first | (go_at_call 122; have HQ := D0; clear D0; refine (HQ.out _).mono ?_; clear HQ; rintro e w1 ⟨rfl, rfl⟩) | (go_at_call 122; refine (D1.out _).mono ?_; rintro e w1 ⟨rfl, rfl⟩))
        go_loop [7, 90] (fun _ v90 => v90 = .int .i64 0 ∨ v90 = .int .i64 1 ∨ v90 = .int .i64 2) (fun _ v90 => 5 - (intOf v90).toNat)
        case atStart => exact .inl rfl
        case round =>
          obtain rfl | rfl | rfl := hrel
          · go_wp2_with (go_at_call 122; refine (E0.out _).mono ?_; rintro e w1 ⟨rfl, rfl⟩)
            go_round
            case rel => exact .inr (.inl rfl)
            case measure => simp [intOf]
          · go_wp2_with (go_at_call 122; refine (D1.out _).mono ?_; rintro e w1 ⟨rfl, rfl⟩)
            go_round
            case rel => exact .inr (.inr rfl)
            case measure => simp [intOf]
          · go_wp2_with fail
            go_ret
            exact ⟨rfl, rfl⟩
def takenS (s : Bs) : Int := if digN (s.drop (sgn s)) s.length = 0 then -1 else if s[sgn s]? = some 48 ∧ 1 < sgn s + digN (s.drop (sgn s)) s.length then -1 else ((sgn s + digN (s.drop (sgn s)) s.length : Nat) : Int)
theorem digAt_drop (s : Bs) (g k : Nat) : digAt (s.drop g) k = digAt s (g + k) := by
  unfold digAt
  rw [List.getElem?_drop]
theorem digs_at (s : Bs) (g : Nat) : (∀ n, g ≤ n → n < g + digN (s.drop g) s.length → digAt s n = true) ∧ digAt s (g + digN (s.drop g) s.length) = false := by
  refine ⟨fun n h1 h2 => ?_, ?_⟩
  · have := digAt_lt (s := s.drop g) (n := s.length) (k := n - g) (by omega)
    rwa [digAt_drop, show g + (n - g) = n by omega] at this
  · rw [← digAt_drop]
    have hle := digN_le (s.drop g) s.length
    by_cases h : digN (s.drop g) s.length < s.length
    · exact digAt_end h
    · unfold digAt
      rw [List.getElem?_eq_none (by simp only [List.length_drop] at *; omega)]
set_option maxRecDepth 100000 in
set_option maxHeartbeats 1600000 in
theorem taken_115 (s : Bs) (hs : s.length ≤ 1000000) (w : World) :
    Calls Tryz.prog 89 #[.int .u8 115, .string ⟨s.toArray⟩] w fun e w' => e = .returned (.int .i64 (takenS s)) ∧ w = w' := by
  have HP := Lib.hid (fun W' => hasm_any s W')
  have DG := Lib.hid (fun (i : Nat) W => isDigit_any s i W)
  obtain ⟨R, hR⟩ : ∃ R, takenS s = R := ⟨_, rfl⟩
  rw [hR]
  have hle := digN_le (s.drop (sgn s)) s.length
  obtain ⟨hA, hE⟩ := digs_at s (sgn s)
  have hsg : (s.head? = some 45 ∧ sgn s = 1) ∨ (¬ s.head? = some 45 ∧ sgn s = 0) := by
    unfold sgn
    rw [List.head?_eq_getElem?]
    by_cases h : s[0]? = some 45
    · exact .inl ⟨h, if_pos h⟩
    · exact .inr ⟨h, if_neg h⟩
  unfold takenS at hR
  simp only [List.length_drop] at hle
  have HA := Lib.hid hA
  have HE := Lib.hid hE
  have HR := Lib.hid hR
  clear hA hE hR
  rcases hsg with ⟨h45, hg⟩ | ⟨h45, hg⟩
  · rw [hg] at HA HE HR hle
    rw [show decide (s.head? = some 45) = true from by rw [decide_eq_true_eq]; exact h45] at HP
    clear hg h45
    generalize digN (s.drop 1) s.length = d at *
    go_enter Tryz.func89, Tryz.ntmps89
    go_wp2_with (go_at_call 47; refine (HP.out _).mono ?_; rintro e w9 ⟨rfl, rfl⟩)
    go_loop [5] (fun v5 => ∃ n : Nat, 1 ≤ n ∧ n ≤ 1 + d ∧ v5 = .int .i64 n) (fun v5 => 1000002 - (intOf v5).toNat)
    case atStart => exact ⟨1, Nat.le_refl _, Nat.le_add_right _ _, rfl⟩
    case round =>
      obtain ⟨n, hn1, hn2, rfl⟩ := hrel
      have hw1 : IntKind.i64.wrap ((n : Int) + 1) = (n : Int) + 1 := IntWalk.i64_in _ (by omega)
      by_cases hnd : n < 1 + d
      · have DK := Lib.hid (DG.out n)
        rw [HA.out n hn1 hnd] at DK
        clear HR HA HE
        go_wp2_with (go_at_call 122; refine (DK.out _).mono ?_; rintro e w1 ⟨rfl, rfl⟩)
        go_round
        case rel => exact ⟨n + 1, by omega, by omega, by go_num⟩
        case measure => simp [intOf]; omega
      · obtain rfl : n = 1 + d := by omega
        have DK := Lib.hid (DG.out (1 + d))
        rw [HE.out] at DK
        by_cases hd0 : d = 0
        · have z : (((1 + d : Nat) : Int) == 1) = true := by rw [hd0]; rfl
          obtain rfl : R = -1 := by have := HR.out; rw [if_pos hd0] at this; exact this.symm
          clear HR HA HE
          generalize hn : 1 + d = n at *
          go_wp2_with (go_at_call 122; refine (DK.out _).mono ?_; rintro e w1 ⟨rfl, rfl⟩)
          go_ret
          exact ⟨rfl, rfl⟩
        · have z : (((1 + d : Nat) : Int) == 1) = false := by rw [beq_eq_false_iff_ne]; omega
          have hl : 1 < s.length := by omega
          have hli : (1 : Int) < (s.length : Int) := by omega
          have hx : s[1]? = some s[1] := List.getElem?_eq_getElem hl
          have HR2 := HR.out
          rw [if_neg hd0, hx] at HR2
          clear HR HA HE hx
          by_cases ha : s[1] = 48
          · have a48 : (((s[1].toNat : Int)) == 48) = true := by rw [ha]; rfl
            by_cases h1 : 1 < 1 + d
            · have d1 : decide ((1 : Int) < ((1 + d : Nat) : Int)) = true := by rw [decide_eq_true_eq]; omega
              obtain rfl : R = -1 := by rw [if_pos ⟨by rw [ha], h1⟩] at HR2; exact HR2.symm
              clear HR2 ha
              generalize hn : 1 + d = n at *
              go_wp2_with (go_at_call 122; refine (DK.out _).mono ?_; rintro e w1 ⟨rfl, rfl⟩)
              go_ret
              exact ⟨rfl, rfl⟩
            · have d1 : decide ((1 : Int) < ((1 + d : Nat) : Int)) = false := by rw [decide_eq_false_iff_not]; omega
              obtain rfl : R = ((1 + d : Nat) : Int) := by rw [if_neg (fun h => h1 h.2)] at HR2; exact HR2.symm
              clear HR2 ha
              generalize hn : 1 + d = n at *
              go_wp2_with (go_at_call 122; refine (DK.out _).mono ?_; rintro e w1 ⟨rfl, rfl⟩)
              go_ret
              exact ⟨by rw [hn]; rfl, rfl⟩
          · have a48 : (((s[1].toNat : Int)) == 48) = false := by simpa using u8_ne (a := s[1]) (k := 48) (by omega) ha
            obtain rfl : R = ((1 + d : Nat) : Int) := by rw [if_neg (fun h => ha (Option.some.inj h.1))] at HR2; exact HR2.symm
            clear HR2 ha
            generalize hn : 1 + d = n at *
            go_wp2_with (go_at_call 122; refine (DK.out _).mono ?_; rintro e w1 ⟨rfl, rfl⟩)
            go_ret
            exact ⟨by rw [hn]; rfl, rfl⟩
  · rw [hg] at HA HE HR hle
    rw [show decide (s.head? = some 45) = false from by rw [decide_eq_false_iff_not]; exact h45] at HP
    clear hg h45
    generalize digN (s.drop 0) s.length = d at *
    go_enter Tryz.func89, Tryz.ntmps89
    go_wp2_with (go_at_call 47; refine (HP.out _).mono ?_; rintro e w9 ⟨rfl, rfl⟩)
    go_loop [5] (fun v5 => ∃ n : Nat, 0 ≤ n ∧ n ≤ 0 + d ∧ v5 = .int .i64 n) (fun v5 => 1000002 - (intOf v5).toNat)
    case atStart => exact ⟨0, Nat.le_refl _, Nat.le_add_right _ _, rfl⟩
    case round =>
      obtain ⟨n, hn1, hn2, rfl⟩ := hrel
      have hw1 : IntKind.i64.wrap ((n : Int) + 1) = (n : Int) + 1 := IntWalk.i64_in _ (by omega)
      by_cases hnd : n < 0 + d
      · have DK := Lib.hid (DG.out n)
        rw [HA.out n hn1 hnd] at DK
        clear HR HA HE
        go_wp2_with (go_at_call 122; refine (DK.out _).mono ?_; rintro e w1 ⟨rfl, rfl⟩)
        go_round
        case rel => exact ⟨n + 1, by omega, by omega, by go_num⟩
        case measure => simp [intOf]; omega
      · obtain rfl : n = 0 + d := by omega
        have DK := Lib.hid (DG.out (0 + d))
        rw [HE.out] at DK
        by_cases hd0 : d = 0
        · have z : (((0 + d : Nat) : Int) == 0) = true := by rw [hd0]; rfl
          obtain rfl : R = -1 := by have := HR.out; rw [if_pos hd0] at this; exact this.symm
          clear HR HA HE
          generalize hn : 0 + d = n at *
          go_wp2_with (go_at_call 122; refine (DK.out _).mono ?_; rintro e w1 ⟨rfl, rfl⟩)
          go_ret
          exact ⟨rfl, rfl⟩
        · have z : (((0 + d : Nat) : Int) == 0) = false := by rw [beq_eq_false_iff_ne]; omega
          have hl : 0 < s.length := by omega
          have hli : (0 : Int) < (s.length : Int) := by omega
          have hx : s[0]? = some s[0] := List.getElem?_eq_getElem hl
          have HR2 := HR.out
          rw [if_neg hd0, hx] at HR2
          clear HR HA HE hx
          by_cases ha : s[0] = 48
          · have a48 : (((s[0].toNat : Int)) == 48) = true := by rw [ha]; rfl
            by_cases h1 : 1 < 0 + d
            · have d1 : decide ((1 : Int) < ((0 + d : Nat) : Int)) = true := by rw [decide_eq_true_eq]; omega
              obtain rfl : R = -1 := by rw [if_pos ⟨by rw [ha], h1⟩] at HR2; exact HR2.symm
              clear HR2 ha
              generalize hn : 0 + d = n at *
              go_wp2_with (go_at_call 122; refine (DK.out _).mono ?_; rintro e w1 ⟨rfl, rfl⟩)
              go_ret
              exact ⟨rfl, rfl⟩
            · have d1 : decide ((1 : Int) < ((0 + d : Nat) : Int)) = false := by rw [decide_eq_false_iff_not]; omega
              obtain rfl : R = ((0 + d : Nat) : Int) := by rw [if_neg (fun h => h1 h.2)] at HR2; exact HR2.symm
              clear HR2 ha
              generalize hn : 0 + d = n at *
              go_wp2_with (go_at_call 122; refine (DK.out _).mono ?_; rintro e w1 ⟨rfl, rfl⟩)
              go_ret
              exact ⟨by rw [hn]; rfl, rfl⟩
          · have a48 : (((s[0].toNat : Int)) == 48) = false := by simpa using u8_ne (a := s[0]) (k := 48) (by omega) ha
            obtain rfl : R = ((0 + d : Nat) : Int) := by rw [if_neg (fun h => ha (Option.some.inj h.1))] at HR2; exact HR2.symm
            clear HR2 ha
            generalize hn : 0 + d = n at *
            go_wp2_with (go_at_call 122; refine (DK.out _).mono ?_; rintro e w1 ⟨rfl, rfl⟩)
            go_ret
            exact ⟨by rw [hn]; rfl, rfl⟩
/-- How many bytes a letter takes, every letter. -/
theorem taken_known : ∀ n : Nat, n < 256 → (info (n : Int)).isSome = true → n ∈ [89, 71, 106, 117, 121, 109, 100, 72, 77, 83, 73, 86, 101, 115, 112, 66, 98, 65, 97] := by decide +kernel
end Go.Proofs.YtkahakhhdiffcaaGreatDoor
