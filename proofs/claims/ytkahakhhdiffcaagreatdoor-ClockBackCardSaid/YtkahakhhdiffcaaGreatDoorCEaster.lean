/- The contract of the clock's Easter; and what the clock's examples are. -/
import Derived.Test.YtkahakhhdiffcaaGreatDoorCEasterP
import Derived.Test.YtkahakhhdiffcaaGreatDoorCWeek
namespace Go.Proofs.YtkahakhhdiffcaaGreatDoor
set_option linter.unusedVariables false
set_option linter.unusedSimpArgs false
open Go.RowKit

noncomputable def easterC (y : Int) : Int × Int := if winI y 1 9999 = true then ((dayNo y (eMonth y) (eDom y) - 719162) * 86400, 0) else (0, 7)
set_option maxRecDepth 100000 in
set_option maxHeartbeats 1600000 in
theorem Easter_any (y : Int) (w : World) :
    Calls Tryz.prog 15 #[.int .i64 y] w fun e w' => e = .returned (.tuple #[.int .i64 (easterC y).1, .int .i64 (easterC y).2]) ∧ w = w' := by
  have HV := Lib.hid (fun W => within_any y 1 9999 W)
  unfold easterC
  by_cases hv : winI y 1 9999 = true
  · rw [if_pos hv]
    rw [hv] at HV
    simp [winI] at hv
    have hlaw := easter_law hv.1 hv.2
    have HN := Lib.hid (fun W => number_any y (eMonth y) (eDom y) hv.1 (by omega) (by omega) (by omega) (by omega) (by omega) W)
    have hdb := dayNo_bound hv.1 (by omega : y ≤ 100000) (by omega : 1 ≤ eMonth y) (by omega) (by omega : -1000000 ≤ eDom y) (by omega)
    obtain ⟨q, hq⟩ : ∃ q, dayNo y (eMonth y) (eDom y) - 719162 = q := ⟨_, rfl⟩
    have hqb : -10000000 ≤ q ∧ q ≤ 100000000 := by omega
    rw [hq] at HN ⊢
    have hE : eMonth y = eMonth y ∧ eDom y = eDom y := ⟨rfl, rfl⟩
    obtain ⟨a, ha⟩ : ∃ a, y % 19 = a := ⟨_, rfl⟩
    obtain ⟨b, hb⟩ : ∃ b, y / 100 = b := ⟨_, rfl⟩
    obtain ⟨c, hc⟩ : ∃ c, y % 100 = c := ⟨_, rfl⟩
    obtain ⟨g, hg⟩ : ∃ g, (8 * b + 13) / 25 = g := ⟨_, rfl⟩
    obtain ⟨b4, hb4⟩ : ∃ b4, b / 4 = b4 := ⟨_, rfl⟩
    obtain ⟨b5, hb5⟩ : ∃ b5, b % 4 = b5 := ⟨_, rfl⟩
    obtain ⟨c4, hc4⟩ : ∃ c4, c / 4 = c4 := ⟨_, rfl⟩
    obtain ⟨c5, hc5⟩ : ∃ c5, c % 4 = c5 := ⟨_, rfl⟩
    obtain ⟨h, hh⟩ : ∃ h, (19 * a + b - b4 - g + 15) % 30 = h := ⟨_, rfl⟩
    obtain ⟨l, hl⟩ : ∃ l, (32 + 2 * b5 + 2 * c4 - h - c5) % 7 = l := ⟨_, rfl⟩
    obtain ⟨m, hm⟩ : ∃ m, (a + 11 * h + 19 * l) / 433 = m := ⟨_, rfl⟩
    obtain ⟨mo, hmo⟩ : ∃ mo, (h + l - 7 * m + 90) / 25 = mo := ⟨_, rfl⟩
    obtain ⟨dm, hdm⟩ : ∃ dm, (h + l - 7 * m + 33 * mo + 19) % 32 = dm := ⟨_, rfl⟩
    have eH0 : eH y = h := by unfold eH eG; rw [ha, hb, hb4, hg]; exact hh
    have eL0 : eL y = l := by unfold eL; rw [hb, hc, hb5, hc4, hc5, eH0]; exact hl
    have eQ0 : eQ y = m := by unfold eQ; rw [ha, eH0, eL0]; exact hm
    have eM0 : eMonth y = mo := by unfold eMonth; rw [eH0, eL0, eQ0]; exact hmo
    have eD0 : eDom y = dm := by unfold eDom; rw [eH0, eL0, eQ0, eM0]; exact hdm
    rw [eM0, eD0] at HN
    have r1 : 0 ≤ a ∧ a ≤ 18 ∧ 0 ≤ b ∧ b ≤ 99 ∧ 0 ≤ c ∧ c ≤ 99 := by omega
    have r2 : 0 ≤ g ∧ g ≤ 33 ∧ 0 ≤ b4 ∧ b4 ≤ 24 ∧ 0 ≤ b5 ∧ b5 ≤ 3 ∧ 0 ≤ c4 ∧ c4 ≤ 24 ∧ 0 ≤ c5 ∧ c5 ≤ 3 ∧ 0 ≤ b - b4 - g + 15 := by omega
    have r3 : 0 ≤ h ∧ h ≤ 29 ∧ 0 ≤ 19 * a + b - b4 - g + 15 ∧ 19 * a + b - b4 - g + 15 ≤ 1000 := by omega
    have r4 : 0 ≤ l ∧ l ≤ 6 ∧ 0 ≤ 32 + 2 * b5 + 2 * c4 - h - c5 ∧ 32 + 2 * b5 + 2 * c4 - h - c5 ≤ 200 := by omega
    have r5 : 0 ≤ m ∧ m ≤ 1 ∧ 0 ≤ a + 11 * h + 19 * l ∧ a + 11 * h + 19 * l ≤ 1000 := by omega
    have r6 : 0 ≤ h + l - 7 * m + 90 ∧ h + l - 7 * m + 90 ≤ 300 ∧ 0 ≤ mo ∧ mo ≤ 12 := by omega
    have r7 : 0 ≤ h + l - 7 * m + 33 * mo + 19 ∧ h + l - 7 * m + 33 * mo + 19 ≤ 1000 ∧ 0 ≤ dm ∧ dm ≤ 31 := by omega
    have s1 : y.tmod 19 = a := by rw [Int.tmod_eq_emod_of_nonneg (by omega)]; exact ha
    have s2 : y.tdiv 100 = b := by rw [Int.tdiv_eq_ediv_of_nonneg (by omega)]; exact hb
    have s3 : y.tmod 100 = c := by rw [Int.tmod_eq_emod_of_nonneg (by omega)]; exact hc
    have s4 : (8 * b + 13).tdiv 25 = g := by rw [Int.tdiv_eq_ediv_of_nonneg (by omega)]; exact hg
    have s5 : b.tdiv 4 = b4 := by rw [Int.tdiv_eq_ediv_of_nonneg (by omega)]; exact hb4
    have s6 : b.tmod 4 = b5 := by rw [Int.tmod_eq_emod_of_nonneg (by omega)]; exact hb5
    have s7 : c.tdiv 4 = c4 := by rw [Int.tdiv_eq_ediv_of_nonneg (by omega)]; exact hc4
    have s8 : c.tmod 4 = c5 := by rw [Int.tmod_eq_emod_of_nonneg (by omega)]; exact hc5
    have s9 : (19 * a + b - b4 - g + 15).tmod 30 = h := by rw [Int.tmod_eq_emod_of_nonneg (by omega)]; exact hh
    have s10 : (32 + 2 * b5 + 2 * c4 - h - c5).tmod 7 = l := by rw [Int.tmod_eq_emod_of_nonneg (by omega)]; exact hl
    have s11 : (a + 11 * h + 19 * l).tdiv 433 = m := by rw [Int.tdiv_eq_ediv_of_nonneg (by omega)]; exact hm
    have s12 : (h + l - 7 * m + 90).tdiv 25 = mo := by rw [Int.tdiv_eq_ediv_of_nonneg (by omega)]; exact hmo
    have s13 : (h + l - 7 * m + 33 * mo + 19).tmod 32 = dm := by rw [Int.tmod_eq_emod_of_nonneg (by omega)]; exact hdm
    clear hlaw hdb hE eH0 eL0 eQ0 eM0 eD0 hq hg hb4 hb5 hc4 hc5 hh hl hm hmo hdm ha hb hc
    go_enter Tryz.func15, Tryz.ntmps15
    go_wp2_with (first | (go_at_call 42; refine (HV.out _).mono ?_; rintro e w1 ⟨rfl, rfl⟩) | (go_at_call 43; refine (HN.out _).mono ?_; rintro e w1 ⟨rfl, rfl⟩))
    go_ret2
    exact ⟨ret2_ii (by omega) rfl, rfl⟩
  · rw [if_neg hv]
    rw [Bool.not_eq_true] at hv
    rw [hv] at HV
    go_enter Tryz.func15, Tryz.ntmps15
    go_wp2_with (go_at_call 42; refine (HV.out _).mono ?_; rintro e w1 ⟨rfl, rfl⟩)
    go_ret2
    exact ⟨rfl, rfl⟩
end Go.Proofs.YtkahakhhdiffcaaGreatDoor
