/- Contracts of the clock's numbers of days, both ones, and of the tests of a date. -/
import Derived.Test.YtkahakhhdiffcaaGreatDoorCNum1
import Derived.Deep.RegionWith
namespace Go.Proofs.YtkahakhhdiffcaaGreatDoor
set_option linter.unusedVariables false
set_option linter.unusedSimpArgs false
open Go.RowKit

set_option maxHeartbeats 1600000 in
set_option maxRecDepth 100000 in
theorem number_any (y m d : Int) (h1 : 1 ≤ y) (h2 : y ≤ 100000) (hm : 1 ≤ m) (hm2 : m ≤ 12) (hd : -1000000 ≤ d) (hd2 : d ≤ 1000000) (w : World) :
    Calls Tryz.prog 43 #[.int .i64 y, .int .i64 m, .int .i64 d] w fun e w' => e = .returned (.int .i64 (dayNo y m d - 719162)) ∧ w = w' := by
  have hb := bef_far h1
  have hb1 : bef 1 = 0 := by decide
  rw [hb1] at hb
  obtain ⟨Z, hZ⟩ : ∃ Z, bef 1970 = Z := ⟨_, rfl⟩
  have h70 : bef 1970 = 719162 := by decide
  have hZ0 : 0 ≤ Z ∧ Z ≤ 1000000 := by omega
  have HZ : Hid (Z = 719162) := by show _ = _; omega
  have HB := Lib.hid (fun W => before_any y h1 (by omega) W)
  have HB0 := Lib.hid (fun W => before_any 1970 (by omega) (by omega) W)
  rw [hZ] at HB0
  have HD := Lib.hid (fun k (hk : 1 ≤ k) (hk2 : k ≤ 12) W => days_any y k (by omega) hk hk2 W)
  have HN : Hid (∀ k : Int, 1 ≤ k → k ≤ 12 → cum y (k + 1) = cum y k + dim y k) := fun k a b => cum_next y a b
  have HG : Hid (∀ k : Int, 1 ≤ k → k ≤ 12 → 0 ≤ cum y k ∧ cum y k ≤ 366 ∧ 28 ≤ dim y k ∧ dim y k ≤ 31) := by
    intro k a b
    have q1 := cum_mono y (m := 1) (n := k) (by omega) (by omega) (by omega)
    have q2 := cum_mono y (m := k) (n := 13) (by omega) (by omega) (by omega)
    rw [cum_13] at q2
    rw [cum_one] at q1
    have q3 := leap1_le y
    have q4 := dim_ge y k
    omega
  have hc1 : cum y 1 = 0 := rfl
  have HC1 := Lib.hid hc1
  unfold dayNo
  generalize bef y = B at *
  clear hc1 hb1 h70 hZ
  go_enter Tryz.func43, Tryz.ntmps43
  go_wp2_with (first | (go_at_call_of 86 y; refine (HB.out _).mono ?_; rintro e w' ⟨rfl, rfl⟩) | (go_at_call 86; refine (HB0.out _).mono ?_; rintro e w' ⟨rfl, rfl⟩))
  go_loopw [7, 8] (fun v7 v8 wr => ∃ k c : Int, v7 = .int .i64 (B - Z + d - 1 + c) ∧ v8 = .int .i64 k ∧ wr = w ∧ 1 ≤ k ∧ k ≤ m ∧ Hid (c = cum y k) ∧ 0 ≤ c ∧ c ≤ 366) (fun _ v8 _ => (m - intOf v8).toNat)
  case atStart => exact ⟨1, 0, by go_num, rfl, rfl, by omega, by omega, HC1.out.symm, by omega, by omega⟩
  case round =>
    obtain ⟨k, c, rfl, rfl, rfl, hk, hkm, HC, hc0, hc1⟩ := hrel
    by_cases hlt : k < m
    · have hD := Lib.hid (fun W => HD.out k hk (by omega) W)
      have hN := Lib.hid (HN.out k hk (by omega))
      have hG := HG.out k hk (by omega)
      have hG2 := HG.out (k + 1) (by omega) (by omega)
      rw [hN.out, ← HC.out] at hG2
      generalize dim y k = q at *
      go_wp2_with (go_at_call 49; refine (hD.out _).mono ?_; rintro e w' ⟨rfl, rfl⟩)
      go_roundw
      case rel => exact ⟨k + 1, c + q, by go_num, by go_num, by first | trivial | rfl, by omega, by omega, by show _ = _; rw [hN.out, ← HC.out], by omega, by omega⟩
      case measure => simp [intOf]; omega
    · have hkm2 : k = m := by omega
      go_wp2_with fail
      go_ret
      have hz := HZ.out
      exact ⟨ret_int (by rw [← hkm2, ← HC.out]; omega), rfl⟩

set_option maxRecDepth 100000 in
theorem rnumber_any (y m d : Int) (h1 : 1 ≤ y) (h2 : y ≤ 100000) (hm : 1 ≤ m) (hm2 : m ≤ 12) (hd : -1000000 ≤ d) (hd2 : d ≤ 1000000) (w : World) :
    Calls Tryz.prog 94 #[.int .i64 y, .int .i64 m, .int .i64 d] w fun e w' => e = .returned (.int .i64 (dayNo y m d)) ∧ w = w' := by
  have HW := Lib.hid (fun k (hk : 1 ≤ k) W => rwhole_any k (by omega) W)
  have HD := Lib.hid (fun k W => rlength_any y k (by omega) W)
  have HB : Hid (∀ k : Int, 1 ≤ k → k ≤ 100000 → bef (k + 1) = bef k + (365 + leap1 k) ∧ 0 ≤ bef k ∧ bef k ≤ 36600000 ∧ 0 ≤ leap1 k ∧ leap1 k ≤ 1) := by
    intro k a b
    have q1 := bef_next k
    have q2 := bef_far a
    have q3 : bef 1 = 0 := by decide
    have q4 := leap1_le k
    omega
  have HN : Hid (∀ k : Int, 1 ≤ k → k ≤ 12 → cum y (k + 1) = cum y k + dim y k) := fun k a b => cum_next y a b
  have HG : Hid (∀ k : Int, 1 ≤ k → k ≤ 12 → 0 ≤ cum y k ∧ cum y k ≤ 366 ∧ 28 ≤ dim y k ∧ dim y k ≤ 31) := by
    intro k a b
    have q1 := cum_mono y (m := 1) (n := k) (by omega) (by omega) (by omega)
    have q2 := cum_mono y (m := k) (n := 13) (by omega) (by omega) (by omega)
    rw [cum_13] at q2
    rw [cum_one] at q1
    have q3 := leap1_le y
    have q4 := dim_ge y k
    omega
  have HC1 : Hid (cum y 1 = 0) := rfl
  have HB1 : Hid (bef 1 = 0) := by show _ = _; decide
  unfold dayNo
  go_enter Tryz.func94, Tryz.ntmps94
  go_wp2_with fail
  go_loopw [7, 8] (fun v7 v8 wr => ∃ k b : Int, v7 = .int .i64 (d - 1 + b) ∧ v8 = .int .i64 k ∧ wr = w ∧ 1 ≤ k ∧ k ≤ y ∧ Hid (b = bef k) ∧ 0 ≤ b ∧ b ≤ 36600000) (fun _ v8 _ => (y - intOf v8).toNat)
  case atStart => exact ⟨1, 0, by go_num, rfl, rfl, by omega, by omega, HB1.out.symm, by omega, by omega⟩
  case round =>
    obtain ⟨k, b, rfl, rfl, rfl, hk, hky, HB2, hb0, hb1⟩ := hrel
    by_cases hlt : k < y
    · have hW := Lib.hid (fun W => HW.out k hk W)
      have hb := HB.out k hk (by omega)
      have hb2 := HB.out (k + 1) (by omega) (by omega)
      rw [hb.1, ← HB2.out] at hb2
      have hN := Lib.hid hb.1
      replace hb := hb.2
      have hq := leap1_le k
      generalize leap1 k = q at *
      clear hb
      have hb3 := hb2.2.1
      have hb4 := hb2.2.2.1
      clear hb2
      go_wp2_with (go_at_call 54; refine (hW.out _).mono ?_; rintro e w' ⟨rfl, rfl⟩)
      go_roundw
      case rel => exact ⟨k + 1, b + (365 + q), by go_num, by go_num, by first | trivial | rfl, by omega, by omega, by show _ = _; rw [hN.out, ← HB2.out], by omega, by omega⟩
      case measure => simp [intOf]; omega
    · have hky2 : k = y := by omega
      subst hky2
      go_wp2_with fail
      go_loopw [7, 9] (fun v7 v9 w2 => ∃ j c : Int, v7 = .int .i64 (d - 1 + b + c) ∧ v9 = .int .i64 j ∧ w2 = wr ∧ 1 ≤ j ∧ j ≤ m ∧ Hid (c = cum k j) ∧ 0 ≤ c ∧ c ≤ 366) (fun _ v9 _ => (m - intOf v9).toNat)
      case atStart => exact ⟨1, 0, by go_num, rfl, rfl, by omega, by omega, HC1.out.symm, by omega, by omega⟩
      case round =>
        obtain ⟨j, c, rfl, rfl, rfl, hj, hjm, HC, hc0, hc1⟩ := hrel
        by_cases hlt : j < m
        · have hD := Lib.hid (fun W => HD.out j W)
          have hN := Lib.hid (HN.out j hj (by omega))
          have hG := HG.out j hj (by omega)
          have hG2 := HG.out (j + 1) (by omega) (by omega)
          rw [hN.out, ← HC.out] at hG2
          generalize dim k j = q at *
          go_wp2_with (go_at_call 27; refine (hD.out _).mono ?_; rintro e w' ⟨rfl, rfl⟩)
          go_roundw
          case rel => exact ⟨j + 1, c + q, by go_num, by go_num, by first | trivial | rfl, by omega, by omega, by show _ = _; rw [hN.out, ← HC.out], by omega, by omega⟩
          case measure => simp [intOf]; omega
        · have hkm2 : j = m := by omega
          go_wp2_with fail
          go_ret
          exact ⟨ret_int (by rw [← hkm2, ← HC.out, ← HB2.out]; omega), rfl⟩
end Go.Proofs.YtkahakhhdiffcaaGreatDoor
