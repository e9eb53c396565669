/- Contracts of the clock's days of the year, weeks, and days of weeks, both ones. -/
import Derived.Test.YtkahakhhdiffcaaGreatDoorCREaster
namespace Go.Proofs.YtkahakhhdiffcaaGreatDoor
set_option linter.unusedVariables false
set_option linter.unusedSimpArgs false
open Go.RowKit

noncomputable def yeardayC (t : Int) : Int × Int := if validI t = true then (ydC t, 0) else (0, 7)
noncomputable def weekC (t : Int) : (Int × Int) × Int := if validI t = true then ((yearOf (thC t), weekN t), 0) else ((0, 0), 7)

set_option maxRecDepth 100000 in
set_option maxHeartbeats 1600000 in
theorem ryearday_any (t : Int) (ht : -62135596800 ≤ t) (ht2 : t ≤ 300000000000) (w : World) :
    Calls Tryz.prog 97 #[.int .i64 t] w fun e w' => e = .returned (.int .i64 (ydC t)) ∧ Below w.heap.size w w' := by
  have HD := Lib.hid (rdate_any t ht ht2 w)
  have hy := year_100000 ht ht2
  have hok := (dateC_ok ht).1.date
  have hday := date_day ht
  have hdl := dim_ge (dateC t).y (dateC t).m
  have h2 := hok.m1; have h3 := hok.m12; have h4 := hok.d1; have h5 := hok.dn
  have hr : ydC t = dayNo (dateC t).y (dateC t).m (dateC t).d - bef (dateC t).y + 1 := by unfold ydC; rw [hday]
  rw [hr]
  have hi := dayNo_in hok
  have hle := leap1_le (dateC t).y
  have hbn := bef_next (dateC t).y
  have hbf := bef_far hy.1
  rw [bef_one] at hbf
  clear hr hday ht ht2
  generalize dateC t = D at *
  obtain ⟨y, m, d, h, mi, s⟩ := D
  simp only [DT.v] at *
  have HN1 := Lib.hid (fun W => rnumber_any y m d hy.1 hy.2 h2 h3 (by omega) (by omega) W)
  have HN2 := Lib.hid (fun W => rnumber_any y 1 1 hy.1 hy.2 (by omega) (by omega) (by omega) (by omega) W)
  have e1 : dayNo y 1 1 = bef y := by simp [dayNo, cum_one]
  rw [e1] at HN2
  have hb1 : 0 ≤ dayNo y m d ∧ dayNo y m d ≤ 62135596800 ∧ 0 ≤ bef y ∧ bef y ≤ 62135596800 := by omega
  generalize dayNo y m d = q1 at *
  generalize bef y = q2 at *
  clear hok hi hle hbn hbf e1 hdl h5
  go_enter Tryz.func97, Tryz.ntmps97
  go_wp2_with (go_at_call 25; refine HD.out.mono ?_; rintro e w1 ⟨rfl, hb⟩; obtain ⟨c0, c1, c2, c3, c4, c5⟩ := cells6_new w1 (.int .i64 y) (.int .i64 m) (.int .i64 d) (.int .i64 h) (.int .i64 mi) (.int .i64 s) 39)
  go_quiet (first | (go_at_call_of 94 m; exact Calls.quiet_of_same ((HN1.out _).mono fun e w' h => ⟨h.1, h.2.symm⟩)) | (go_at_call 94; exact Calls.quiet_of_same ((HN2.out _).mono fun e w' h => ⟨h.1, h.2.symm⟩)))
  go_wp2_with fail
  go_ret
  exact ⟨rfl, below_drewN (hb.alloc hb.size _) _⟩

/-- The Thursday of a time's week, at the time's hour. -/
theorem th_time {t : Int} (ht : -62135596800 ≤ t) : dayOf (t + (4 - wdC t) * 86400) = thC t := by unfold thC wdC dayOf; omega
set_option maxRecDepth 100000 in
set_option maxHeartbeats 1600000 in
theorem rweek_any (t : Int) (ht : -62135596800 ≤ t) (ht2 : t ≤ 290000000000) (w : World) :
    Calls Tryz.prog 98 #[.int .i64 t] w fun e w' => e = .returned (.tuple #[.int .i64 (yearOf (thC t)), .int .i64 (weekN t)]) ∧ Below w.heap.size w w' := by
  have HW := Lib.hid (fun W => rweekday_any t ht (by omega) W)
  have hth := th_in t
  have h0 : 0 ≤ thC t := by unfold thC wdC dayOf; omega
  have htt := th_time ht
  obtain ⟨T, hT⟩ : ∃ T, t + (4 - wdC t) * 86400 = T := ⟨_, rfl⟩
  rw [hT] at htt
  have hTb : -62135596800 ≤ T ∧ T ≤ 291000000000 := by unfold dayOf at htt; omega
  have HD := Lib.hid (fun W => rdate_any T hTb.1 (by omega) W)
  have HY := Lib.hid (fun W => ryearday_any T hTb.1 (by omega) W)
  have hyd := year_day hTb.1
  rw [htt] at hyd
  have hyi := yearOf_in h0
  have hy1 : ydC T = thC t - bef (yearOf (thC t)) + 1 := by unfold ydC; rw [htt, hyd]
  have hyb : 1 ≤ ydC T ∧ ydC T ≤ 366 := by have := bef_next (yearOf (thC t)); have := leap1_le (yearOf (thC t)); omega
  have hwn : weekN t = (ydC T - 1) / 7 + 1 := by unfold weekN; rw [hy1]; congr 2; omega
  rw [hwn]
  have hq : (ydC T - 1).tdiv 7 = (ydC T - 1) / 7 := Int.tdiv_eq_ediv_of_nonneg (by omega)
  have hwb : 1 ≤ wdC t ∧ wdC t ≤ 7 := by omega
  generalize ydC T = yd at *
  generalize wdC t = wd at *
  rw [← hyd]
  generalize dateC T = D at *
  obtain ⟨y, m, d, h, mi, s⟩ := D
  simp only [DT.v] at *
  have hf := fun W => date_field0 (.int .i64 y) (.int .i64 m) (.int .i64 d) (.int .i64 h) (.int .i64 mi) (.int .i64 s) W
  clear hyd hyi hwn hy1 htt hth h0
  go_enter Tryz.func98, Tryz.ntmps98
  go_wp2_with (first | (go_at_call 26; refine (HW.out _).mono ?_; rintro e w1 ⟨rfl, rfl⟩) | (go_at_call 25; refine (HD.out _).mono ?_; rintro e w2 ⟨rfl, hb2⟩) | (go_at_call 97; refine (HY.out _).mono ?_; rintro e w3 ⟨rfl, hb3⟩))
  go_ret2
  exact ⟨rfl, hb2.trans (hb3.mono hb2.size)⟩
end Go.Proofs.YtkahakhhdiffcaaGreatDoor
