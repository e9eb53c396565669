/- Contracts of the reference's weekday and Easter, and of both Weekdays. -/
import Derived.Test.YtmidphmniikdpaaDoorCEaster
namespace Go.Proofs.YtmidphmniikdpaaDoor
set_option linter.unusedVariables false
set_option linter.unusedSimpArgs false
open Go.RowKit

set_option maxRecDepth 100000 in
theorem rweekday_any (t : Int) (ht : -62135596800 ≤ t) (ht2 : t ≤ 300000000000) (w : World) :
    Calls Tryd.prog 51 #[.int .i64 t] w fun e w' => e = .returned (.int .i64 (wdC t)) ∧ w = w' := by
  obtain ⟨n, hn⟩ : ∃ n, t - -62135596800 = n := ⟨_, rfl⟩
  have hn0 : 0 ≤ n ∧ n ≤ 400000000000 := by omega
  obtain ⟨q, hq⟩ : ∃ q, n / 86400 = q := ⟨_, rfl⟩
  have hq0 : 0 ≤ q ∧ q ≤ 5000000 := by omega
  have a1 : n.tdiv 86400 = q := by rw [Int.tdiv_eq_ediv_of_nonneg hn0.1]; exact hq
  have a2 : q.tmod 7 = q % 7 := Int.tmod_eq_emod_of_nonneg hq0.1
  have hr : wdC t = q % 7 + 1 := by unfold wdC dayOf; omega
  rw [hr]
  clear hr hq ht ht2
  go_enter Tryd.func51, Tryd.ntmps51
  go_wp2_with fail
  go_ret
  exact ⟨rfl, rfl⟩
noncomputable def weekdayC (t : Int) : Int × Int := if validI t = true then (wdC t, 0) else (0, 7)
set_option maxRecDepth 100000 in
theorem Weekday_any (t : Int) (w : World) :
    Calls Tryd.prog 14 #[.int .i64 t] w fun e w' => e = .returned (.tuple #[.int .i64 (weekdayC t).1, .int .i64 (weekdayC t).2]) ∧ ∃ m, w' = w.drewN m := by
  have HV := Lib.hid (fun W => valid_any t W)
  unfold weekdayC
  by_cases hv : validI t = true
  · have hv2 := (validI_iff t).1 hv
    rw [hv] at HV
    rw [if_pos hv]
    have HW := Lib.hid (fun W => weekday_any t hv2.1 (by omega) W)
    clear hv
    go_enter Tryd.func14, Tryd.ntmps14
    go_wp2_with (first | (go_at_call 38; refine (HV.out _).mono ?_; rintro e w1 ⟨rfl, rfl⟩) | (go_at_call 52; refine (HW.out _).mono ?_; rintro e w1 ⟨rfl, m1, rfl⟩))
    go_ret2
    exact ⟨rfl, _, rfl⟩
  · rw [Bool.not_eq_true] at hv
    rw [hv] at HV
    rw [if_neg (by rw [hv]; decide)]
    go_enter Tryd.func14, Tryd.ntmps14
    go_wp2_with (go_at_call 38; refine (HV.out _).mono ?_; rintro e w1 ⟨rfl, rfl⟩)
    go_ret2
    exact ⟨rfl, 0, rfl⟩
set_option maxRecDepth 100000 in
theorem rWeekday_any (t : Int) (w : World) :
    Calls Tryd.prog 25 #[.int .i64 t] w fun e w' => e = .returned (.tuple #[.int .i64 (weekdayC t).1, .int .i64 (weekdayC t).2]) ∧ ∃ m, w' = w.drewN m := by
  have HV := Lib.hid (fun W => rright_any t W)
  unfold weekdayC
  by_cases hv : validI t = true
  · have hv2 := (validI_iff t).1 hv
    rw [hv] at HV
    rw [if_pos hv]
    have HW := Lib.hid (fun W => rweekday_any t hv2.1 (by omega) W)
    clear hv
    go_enter Tryd.func25, Tryd.ntmps25
    go_wp2_with (first | (go_at_call 44; refine (HV.out _).mono ?_; rintro e w1 ⟨rfl, rfl⟩) | (go_at_call 51; refine (HW.out _).mono ?_; rintro e w1 ⟨rfl, rfl⟩))
    go_ret2
    exact ⟨rfl, 0, rfl⟩
  · rw [Bool.not_eq_true] at hv
    rw [hv] at HV
    rw [if_neg (by rw [hv]; decide)]
    go_enter Tryd.func25, Tryd.ntmps25
    go_wp2_with (go_at_call 44; refine (HV.out _).mono ?_; rintro e w1 ⟨rfl, rfl⟩)
    go_ret2
    exact ⟨rfl, 0, rfl⟩
set_option maxRecDepth 100000 in
set_option maxHeartbeats 3200000 in
theorem rEaster_any (y : Int) (w : World) :
    Calls Tryd.prog 13 #[.int .i64 y] w fun e w' => e = .returned (.tuple #[.int .i64 (easterC y).1, .int .i64 (easterC y).2]) ∧ w = w' := by
  have HV := Lib.hid (fun W => rin_any y 1 9999 W)
  unfold easterC
  by_cases hv : winI y 1 9999 = true
  · rw [if_pos hv]
    rw [hv] at HV
    simp [winI] at hv
    have hlaw := easter_law hv.1 hv.2
    have hy9 : bef y ≤ 3652059 ∧ 0 ≤ bef y := by
      have h1 := bef_far (show y ≤ 10000 by omega)
      have h2 := bef_far hv.1
      rw [bef_10000] at h1
      rw [bef_one] at h2
      omega
    obtain ⟨q3, hq3⟩ : ∃ q, dayNo y 3 1 = q := ⟨_, rfl⟩
    have hq3b : 0 ≤ q3 ∧ q3 ≤ 3652159 := by
      have := leap1_le y
      rw [← hq3]; unfold dayNo
      have : cum y 3 = leap1 y + 59 := by simp [cum]
      omega
    have HN := Lib.hid (fun W => rnumber_any y 3 1 hv.1 (by omega) (by omega) (by omega) (by omega) (by omega) W)
    rw [hq3] at HN hlaw
    obtain ⟨full, hfull⟩ : ∃ f, eFull y = f := ⟨_, rfl⟩
    rw [hfull] at hlaw
    obtain ⟨T, hTe⟩ : ∃ T, -62135596800 + (q3 + full - 1) * 86400 = T := ⟨_, rfl⟩
    have HWD := Lib.hid (fun W => rweekday_any T (by omega) (by omega) W)
    have hwd : wdC T = (q3 + full - 1) % 7 + 1 := by unfold wdC dayOf; omega
    obtain ⟨wd, hwde⟩ : ∃ wd, wdC T = wd := ⟨_, rfl⟩
    rw [hwde] at HWD hwd
    have hres : (dayNo y (eMonth y) (eDom y) - 719162) * 86400 = T + (7 - wd % 7) * 86400 := by rw [hlaw.2.1, ← hTe, hwd]; omega
    rw [hres]
    have hwb : 1 ≤ wd ∧ wd ≤ 7 := by omega
    have hwm : wd.tmod 7 = wd % 7 := Int.tmod_eq_emod_of_nonneg (by omega)
    have hTb : -62135596800 ≤ T ∧ T ≤ 300000000000 := by omega
    obtain ⟨a, ha⟩ : ∃ a, y % 19 = a := ⟨_, rfl⟩
    obtain ⟨b, hb⟩ : ∃ b, y / 100 = b := ⟨_, rfl⟩
    have hab : 0 ≤ a ∧ a ≤ 18 ∧ 0 ≤ b ∧ b ≤ 99 := by omega
    have s1 : y.tmod 19 = a := by rw [Int.tmod_eq_emod_of_nonneg (by omega)]; exact ha
    have s2 : y.tdiv 100 = b := by rw [Int.tdiv_eq_ediv_of_nonneg (by omega)]; exact hb
    obtain ⟨c, hc⟩ : ∃ c, b + 1 = c := ⟨_, rfl⟩
    obtain ⟨l4, hl4⟩ : ∃ l, 3 * c / 4 = l := ⟨_, rfl⟩
    obtain ⟨m25, hm25⟩ : ∃ m, (8 * c + 5) / 25 = m := ⟨_, rfl⟩
    have s3 : (3 * c).tdiv 4 = l4 := by rw [Int.tdiv_eq_ediv_of_nonneg (by omega)]; exact hl4
    have s4 : (8 * c + 5).tdiv 25 = m25 := by rw [Int.tdiv_eq_ediv_of_nonneg (by omega)]; exact hm25
    have hlm : 0 ≤ l4 ∧ l4 ≤ 100 ∧ 0 ≤ m25 ∧ m25 ≤ 100 := by omega
    obtain ⟨gn, hgn⟩ : ∃ g, a + 1 = g := ⟨_, rfl⟩
    obtain ⟨ep, hep⟩ : ∃ e, (11 * gn + 20 + (m25 - 5) - (l4 - 12)).tmod 30 = e := ⟨_, rfl⟩
    have hep0 : eEpact0 y = ep := by unfold eEpact0; rw [ha, hb, hgn, hc, hl4, hm25]; exact hep
    have hepb : -30 < ep ∧ ep < 30 := by
      have h1 := Int.tmod_lt_of_pos (11 * gn + 20 + (m25 - 5) - (l4 - 12)) (show (0 : Int) < 30 by omega)
      have h2 := Int.lt_tmod_of_pos (11 * gn + 20 + (m25 - 5) - (l4 - 12)) (show (0 : Int) < 30 by omega)
      omega
    have hF : Hid (full = (let e1 := if ep < 0 then ep + 30 else ep
        let e2 := if e1 = 25 ∧ gn > 11 ∨ e1 = 24 then e1 + 1 else e1
        if 44 - e2 < 21 then 74 - e2 else 44 - e2)) := by
      show _ = _
      rw [← hfull]; unfold eFull eEpact eEpact1; rw [hep0, ha, hgn]
    have hgb : 1 ≤ gn ∧ gn ≤ 19 ∧ 1 ≤ c ∧ c ≤ 100 := by omega
    have h1 : ∃ e1, (ep < 0 ∧ ep + 30 = e1) ∨ (¬ ep < 0 ∧ ep = e1) := by
      by_cases h : ep < 0
      · exact ⟨_, .inl ⟨h, rfl⟩⟩
      · exact ⟨_, .inr ⟨h, rfl⟩⟩
    obtain ⟨e1, h1⟩ := h1
    have he1 : (if ep < 0 then ep + 30 else ep) = e1 := by
      rcases h1 with ⟨h, e⟩ | ⟨h, e⟩
      · rw [if_pos h]; exact e
      · rw [if_neg h]; exact e
    have h2 : ∃ e2, (if e1 = 25 ∧ gn > 11 ∨ e1 = 24 then e1 + 1 else e1) = e2 ∧ (((e1 == 25) = true ∧ 11 < gn ∧ e1 + 1 = e2) ∨ ((e1 == 25) = true ∧ (e1 == 24) = false ∧ ¬ 11 < gn ∧ e1 = e2) ∨ ((e1 == 25) = false ∧ (e1 == 24) = true ∧ e1 + 1 = e2) ∨ ((e1 == 25) = false ∧ (e1 == 24) = false ∧ e1 = e2)) := by
      refine ⟨_, rfl, ?_⟩
      simp only [beq_iff_eq, beq_eq_false_iff_ne, ne_eq]
      split <;> omega
    obtain ⟨e2, he2, h2⟩ := h2
    have h3 : (44 - e2 < 21 ∧ 44 - e2 + 30 = full) ∨ (¬ 44 - e2 < 21 ∧ 44 - e2 = full) := by
      have hf := hF.out
      simp only at hf
      rw [he1, he2] at hf
      by_cases h : 44 - e2 < 21
      · rw [if_pos h] at hf; exact .inl ⟨h, by omega⟩
      · rw [if_neg h] at hf; exact .inr ⟨h, by omega⟩
    have hr : 21 ≤ full ∧ full ≤ 50 := hlaw.2.2
    have he1b : 0 ≤ e1 ∧ e1 < 30 := by omega
    have he2b : 0 ≤ e2 ∧ e2 ≤ 30 := by
      rw [← he2]; split <;> omega
    clear hlaw hres hq3 hfull hwd hwde ha hb hl4 hm25 hep0 hF he1 he2
    rcases h1 with ⟨hA, hA2⟩ | ⟨hA, hA2⟩ <;> rcases h2 with ⟨hB, hB2, hB3⟩ | ⟨hB, hB4, hB2, hB3⟩ | ⟨hB, hB2, hB3⟩ | ⟨hB, hB2, hB3⟩ <;> rcases h3 with ⟨hC, hC2⟩ | ⟨hC, hC2⟩
    all_goals
      (try subst hA2)
      (try subst hB3)
      go_enter Tryd.func13, Tryd.ntmps13
      go_wp2_with (first | (go_at_call 49; refine (HV.out _).mono ?_; rintro e w1 ⟨rfl, rfl⟩) | (go_at_call 50; refine (HN.out _).mono ?_; rintro e w1 ⟨rfl, rfl⟩) | (go_at_call 51; refine (HWD.out _).mono ?_; rintro e w1 ⟨rfl, rfl⟩))
      go_ret2
      exact ⟨ret2_ii (by omega) rfl, rfl⟩
  · rw [if_neg hv]
    rw [Bool.not_eq_true] at hv
    rw [hv] at HV
    go_enter Tryd.func13, Tryd.ntmps13
    go_wp2_with (go_at_call 49; refine (HV.out _).mono ?_; rintro e w1 ⟨rfl, rfl⟩)
    go_ret2
    exact ⟨rfl, rfl⟩
end Go.Proofs.YtmidphmniikdpaaDoor
