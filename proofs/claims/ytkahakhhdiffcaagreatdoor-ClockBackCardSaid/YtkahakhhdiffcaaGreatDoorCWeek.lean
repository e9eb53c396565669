/- Contracts of the clock's weekdays, days of the year and weeks. -/
import Derived.Test.YtkahakhhdiffcaaGreatDoorCDates
import Derived.Test.YtkahakhhdiffcaaGreatDoorCWeekP
namespace Go.Proofs.YtkahakhhdiffcaaGreatDoor
set_option linter.unusedVariables false
set_option linter.unusedSimpArgs false
open Go.RowKit

theorem year_100000 {t : Int} (ht : -62135596800 ≤ t) (ht2 : t ≤ 300000000000) : 1 ≤ (dateC t).y ∧ (dateC t).y ≤ 100000 := by
  have h := year_in ht
  have h2 := bef_far h.1
  rw [bef_one] at h2
  have h3 : dayOf t ≤ 5000000 := by unfold dayOf; omega
  omega

theorem date_field0 (a b c d e f : Value) (W : World) : (Instr.field 39 (.agg #[a, b, c, d, e, f]) 0).run Tryz.prog W = .ok a W := by kernel_rfl

set_option maxRecDepth 100000 in
theorem weekday_any (t : Int) (ht : -62135596800 ≤ t) (ht2 : t ≤ 300000000000) (w : World) :
    Calls Tryz.prog 22 #[.int .i64 t] w fun e w' => e = .returned (.int .i64 (wdC t)) ∧ ∃ m, w' = w.drewN m := by
  obtain ⟨n, hn⟩ : ∃ n, t / 86400 = n := ⟨_, rfl⟩
  have HD := Lib.hid (fun W => down_any t 86400 (by omega) (by omega) (by omega) (by omega) W)
  rw [hn] at HD
  have HD2 := Lib.hid (fun W => down_any (n + 3) 7 (by omega) (by omega) (by omega) (by omega) W)
  have hr : wdC t = (n + 3) % 7 + 1 := by unfold wdC dayOf; omega
  have hn1 : -1000000 ≤ n ∧ n ≤ 10000000 := by omega
  rw [hr]
  obtain ⟨k, hk⟩ : ∃ k, n + 3 = k := ⟨_, rfl⟩
  rw [hk] at HD2 ⊢
  clear hr hn ht ht2
  go_enter Tryz.func22, Tryz.ntmps22
  go_wp2_with (first | (go_at_call_of 20 t; refine (HD.out _).mono ?_; rintro e w1 ⟨rfl, m1, rfl⟩) | (go_at_call_of 20 k; refine (HD2.out _).mono ?_; rintro e w1 ⟨rfl, m2, rfl⟩))
  go_ret
  exact ⟨rfl, _, rfl⟩

set_option maxRecDepth 100000 in
set_option maxHeartbeats 1600000 in
theorem yearday_any (t : Int) (ht : -62135596800 ≤ t) (ht2 : t ≤ 300000000000) (w : World) :
    Calls Tryz.prog 72 #[.int .i64 t] w fun e w' => e = .returned (.int .i64 (ydC t)) ∧ Below w.heap.size w w' := by
  have HD := Lib.hid (date_any t ht ht2 w)
  have hy := year_100000 ht ht2
  have hok := (dateC_ok ht).1.date
  have hday := date_day ht
  have hdl := dim_ge (dateC t).y (dateC t).m
  have h2 := hok.m1; have h3 := hok.m12; have h4 := hok.d1; have h5 := hok.dn
  have hr : ydC t = dayNo (dateC t).y (dateC t).m (dateC t).d - bef (dateC t).y + 1 := by unfold ydC; rw [hday]
  rw [hr]
  have hi := dayNo_in hok
  have hle := leap1_le (dateC t).y
  have hbn := bef_next (dateC t).y
  have hbf := bef_far hy.1
  rw [bef_one] at hbf
  clear hr hday ht ht2
  generalize dateC t = D at *
  obtain ⟨y, m, d, h, mi, s⟩ := D
  simp only [DT.v] at *
  have HN1 := Lib.hid (fun W => number_any y m d hy.1 hy.2 h2 h3 (by omega) (by omega) W)
  have HN2 := Lib.hid (fun W => number_any y 1 1 hy.1 hy.2 (by omega) (by omega) (by omega) (by omega) W)
  have e1 : dayNo y 1 1 = bef y := by simp [dayNo, cum_one]
  rw [e1] at HN2
  have hb1 : -62135596800 ≤ dayNo y m d - 719162 ∧ dayNo y m d - 719162 ≤ 62135596800 ∧ -62135596800 ≤ bef y - 719162 ∧ bef y - 719162 ≤ 62135596800 := by omega
  obtain ⟨q1, hq1⟩ : ∃ q, dayNo y m d - 719162 = q := ⟨_, rfl⟩
  obtain ⟨q2, hq2⟩ : ∃ q, bef y - 719162 = q := ⟨_, rfl⟩
  rw [hq1] at HN1 hb1
  rw [hq2] at HN2 hb1
  have HR : Hid (dayNo y m d - bef y + 1 = q1 - q2 + 1) := by show _ = _; omega
  clear hok hi hle hbn hbf e1 hq1 hq2 hdl h5
  go_enter Tryz.func72, Tryz.ntmps72
  go_wp2_with (go_at_call 44; refine HD.out.mono ?_; rintro e w1 ⟨rfl, hb⟩; obtain ⟨c0, c1, c2, c3, c4, c5⟩ := cells6_new w1 (.int .i64 y) (.int .i64 m) (.int .i64 d) (.int .i64 h) (.int .i64 mi) (.int .i64 s) 39)
  go_quiet (first | (go_at_call_of 43 m; exact Calls.quiet_of_same ((HN1.out _).mono fun e w' h => ⟨h.1, h.2.symm⟩)) | (go_at_call 43; exact Calls.quiet_of_same ((HN2.out _).mono fun e w' h => ⟨h.1, h.2.symm⟩)))
  go_wp2_with fail
  go_ret
  exact ⟨ret_int HR.out.symm, below_drewN (hb.alloc hb.size _) _⟩

set_option maxRecDepth 100000 in
set_option maxHeartbeats 1600000 in
theorem week_any (t : Int) (ht : -62135596800 ≤ t) (ht2 : t ≤ 290000000000) (w : World) :
    Calls Tryz.prog 74 #[.int .i64 t] w fun e w' => e = .returned (.tuple #[.int .i64 (yearOf (thC t)), .int .i64 (weekN t)]) ∧ Below w.heap.size w w' := by
  obtain ⟨n, hn⟩ : ∃ n, t / 86400 = n := ⟨_, rfl⟩
  have HD := Lib.hid (fun W => down_any t 86400 (by omega) (by omega) (by omega) (by omega) W)
  rw [hn] at HD
  have HW := Lib.hid (fun W => weekday_any t ht (by omega) W)
  have hd1 : dayOf t = n + 719162 := by unfold dayOf; omega
  have hth := th_in t
  have h0 : 0 ≤ thC t := by unfold thC wdC dayOf; omega
  have hle : thC t ≤ 4500000 := by unfold thC wdC dayOf; omega
  have hT : thC t = n + 4 - wdC t + 719162 := by unfold thC; omega
  have hyi := yearOf_in h0
  have hbf := bef_far hyi.1
  rw [bef_one] at hbf
  obtain ⟨Y, hY⟩ : ∃ Y, yearOf (thC t) = Y := ⟨_, rfl⟩
  have hY2 : (dateC ((n + 4 - wdC t) * 86400)).y = Y := by
    rw [← hY]; unfold yearOf; rw [hT]; congr 2; omega
  rw [hY] at hyi hbf
  have HDT := Lib.hid (fun W => date_any ((n + 4 - wdC t) * 86400) (by omega) (by omega) W)
  have HN2 := Lib.hid (fun W => number_any Y 1 1 hyi.1 (by omega) (by omega) (by omega) (by omega) (by omega) W)
  have e1 : dayNo Y 1 1 = bef Y := by simp [dayNo, cum_one]
  rw [e1] at HN2
  have HR : Hid (weekN t = (n + 4 - wdC t - (bef Y - 719162)) / 7 + 1) := by show _ = _; unfold weekN; rw [hY, hT]; omega
  have hb1 : 0 ≤ n + 4 - wdC t - (bef Y - 719162) ∧ n + 4 - wdC t - (bef Y - 719162) ≤ 366 := by have := bef_next Y; have := leap1_le Y; omega
  have hb2 : -10000000 ≤ bef Y - 719162 ∧ bef Y - 719162 ≤ 10000000 := by omega
  have hw1 : 1 ≤ wdC t ∧ wdC t ≤ 7 := by omega
  have hn1 : -10000000 ≤ n ∧ n ≤ 10000000 := by omega
  generalize weekN t = WN at *
  rw [hY]
  generalize wdC t = wd at *
  obtain ⟨T, hTT⟩ : ∃ T, n + 4 - wd = T := ⟨_, rfl⟩
  obtain ⟨TT, hTT2⟩ : ∃ TT, T * 86400 = TT := ⟨_, rfl⟩
  obtain ⟨q2, hq2⟩ : ∃ q, bef Y - 719162 = q := ⟨_, rfl⟩
  rw [hTT] at HDT hb1 HR hY2
  rw [hTT2] at HDT hY2
  rw [hq2] at HN2 hb1 HR hb2
  generalize dateC TT = D at *
  obtain ⟨y, m, d, h, mi, s⟩ := D
  simp only [DT.v] at *
  subst hY2
  have hT1 : -10000000 ≤ T ∧ T ≤ 10000000 := by omega
  have hdq : (T - q2).tdiv 7 = (T - q2) / 7 := Int.tdiv_eq_ediv_of_nonneg hb1.1
  clear hyi hbf hY hn ht ht2 hd1 hth h0 hle hT e1 hq2
  have hf := fun W => date_field0 (.int .i64 y) (.int .i64 m) (.int .i64 d) (.int .i64 h) (.int .i64 mi) (.int .i64 s) W
  go_enter Tryz.func74, Tryz.ntmps74
  go_wp2_with (first | (go_at_call 20; refine (HD.out _).mono ?_; rintro e w1 ⟨rfl, m1, rfl⟩) | (go_at_call 22; refine (HW.out _).mono ?_; rintro e w1 ⟨rfl, m2, rfl⟩) | (go_at_call 44; refine (HDT.out _).mono ?_; rintro e w3 ⟨rfl, hb3⟩) | (go_at_call 43; refine (HN2.out _).mono ?_; rintro e w4 ⟨rfl, rfl⟩))
  go_ret2
  exact ⟨ret2_ii rfl HR.out.symm, (below_drewN (Below.refl _ _) _).trans (hb3.mono (by simp))⟩
end Go.Proofs.YtkahakhhdiffcaaGreatDoor
