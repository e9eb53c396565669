/- 'ClockWeeks' returns true: the walk. -/
import Derived.Test.YtmidphmniikdpaaDoorCOfWeek
import Derived.Test.YtmidphmniikdpaaDoorCAwake
namespace Go.Proofs.YtmidphmniikdpaaDoor.clockWeeks
set_option linter.unusedVariables false
set_option linter.unusedSimpArgs false
open Go.RowKit
theorem wk_below (t : Int) (W : World) : Calls Tryd.prog 14 #[.int .i64 t] W fun e w' => e = .returned (.tuple #[.int .i64 (weekdayC t).1, .int .i64 (weekdayC t).2]) ∧ Below W.heap.size W w' := (Weekday_any t W).mono fun e w' ⟨h, m, hm⟩ => ⟨h, hm ▸ below_drewN (Below.refl _ _) _⟩
theorem rwk_below (t : Int) (W : World) : Calls Tryd.prog 25 #[.int .i64 t] W fun e w' => e = .returned (.tuple #[.int .i64 (weekdayC t).1, .int .i64 (weekdayC t).2]) ∧ Below W.heap.size W w' := (rWeekday_any t W).mono fun e w' ⟨h, m, hm⟩ => ⟨h, hm ▸ below_drewN (Below.refl _ _) _⟩
set_option maxRecDepth 100000 in
set_option maxHeartbeats 6400000 in
theorem walk (t yr nr wd : Int) (w : World) (hT : SpaceIs w) (hP : PowIs w) :
    Calls Tryd.prog 6 #[.int .i64 t, .int .i64 yr, .int .i64 nr, .int .i64 wd] w fun e w' => e = .returned (.bool true) ∧ Below w.heap.size w w' := by
  have K1 := Lib.hid (fun W => wk_below t W)
  have K2 := Lib.hid (fun W => rwk_below t W)
  have Y1 := Lib.hid (fun W => Yearday_any t W)
  have Y2 := Lib.hid (fun W => rYearday_any t W)
  generalize yeardayC t = yp at *
  obtain ⟨yd, ye⟩ := yp
  have Z1 := Lib.hid (fun W => Week_any t W)
  have Z2 := Lib.hid (fun W => rWeek_any t W)
  have O1 := Lib.hid (fun W => OfWeek_any yr nr wd W)
  have O2 := Lib.hid (fun W => rOfWeek_any yr nr wd W)
  generalize ofWeekC yr nr wd = op at *
  obtain ⟨ok, oe⟩ := op
  have HT := Lib.hid hT
  have HP := Lib.hid hP
  have HB := Lib.hid (Below.refl w.heap.size w)
  clear hT hP
  by_cases hv : validI t = true
  · have hv2 := (validI_iff t).1 hv
    have e1 : weekdayC t = (wdC t, 0) := by unfold weekdayC; rw [if_pos hv]
    have e2 : weekC t = ((yearOf (thC t), weekN t), 0) := by unfold weekC; rw [if_pos hv]
    rw [e1] at K1 K2
    rw [e2] at Z1 Z2
    obtain ⟨T2, hT2⟩ : ∃ T2, t + 86400 = T2 := ⟨_, rfl⟩
    have K3 := Lib.hid (fun W => wk_below T2 W)
    have hnext : validI T2 = true → wdC T2 = wdC t % 7 + 1 := by intro _; rw [← hT2]; unfold wdC dayOf; omega
    have O3 := Lib.hid (fun W => OfWeek_any (yearOf (thC t)) (weekN t) (wdC t) W)
    rw [ofWeek_back hv2.1 hv2.2] at O3
    obtain ⟨N, hN⟩ : ∃ N, t - -62135596800 = N := ⟨_, rfl⟩
    obtain ⟨R, hR⟩ : ∃ R, N.tmod 86400 = R := ⟨_, rfl⟩
    have hR2 : N % 86400 = R := by rw [← hR, Int.tmod_eq_emod_of_nonneg (by omega)]
    have hb : dayOf t * 86400 - 62135596800 = t - R := by unfold dayOf; omega
    have hRb : 0 ≤ R ∧ R < 86400 := by omega
    have hNb : 0 ≤ N ∧ N ≤ 400000000000 := by omega
    rw [hb] at O3
    have hwb := th_in t
    have hwb1 : 1 ≤ wdC t ∧ wdC t ≤ 7 := ⟨hwb.2.2.2.2.1, hwb.2.2.2.2.2⟩
    have hwm : (wdC t).tmod 7 = wdC t % 7 := Int.tmod_eq_emod_of_nonneg (by omega)
    generalize yearOf (thC t) = yv at *
    generalize weekN t = wv at *
    clear hwb hb hR2
    by_cases hv3 : validI T2 = true
    · have e3 : weekdayC T2 = (wdC t % 7 + 1, 0) := by unfold weekdayC; rw [if_pos hv3, hnext hv3]
      rw [e3] at K3
      generalize wdC t = av at *
      clear hv hv3 e1 e2 e3 hnext
      go_enter Tryd.func6, Tryd.ntmps6
      go_wp2_with (first
      | (go_at_call_of 14 T2; refine (K3.out _).mono ?_; rintro e w1 ⟨rfl, hb⟩; replace HB := Lib.hid (HB.out.trans (hb.mono HB.out.size)); clear hb)
      | (go_at_call_of 30 yv; refine (O3.out _).mono ?_; rintro e w1 ⟨rfl, hb⟩; replace HB := Lib.hid (HB.out.trans (hb.mono HB.out.size)); clear hb)
      | (go_at_call_of 14 t; refine (K1.out _).mono ?_; rintro e w1 ⟨rfl, hb⟩; replace HB := Lib.hid (HB.out.trans (hb.mono HB.out.size)); clear hb)
      | (go_at_call 25; refine (K2.out _).mono ?_; rintro e w1 ⟨rfl, hb⟩; replace HB := Lib.hid (HB.out.trans (hb.mono HB.out.size)); clear hb)
      | (go_at_call 26; refine (Y1.out _).mono ?_; rintro e w1 ⟨rfl, hb⟩; replace HB := Lib.hid (HB.out.trans (hb.mono HB.out.size)); clear hb)
      | (go_at_call 27; refine (Y2.out _).mono ?_; rintro e w1 ⟨rfl, hb⟩; replace HB := Lib.hid (HB.out.trans (hb.mono HB.out.size)); clear hb)
      | (go_at_call 28; refine (Z1.out _).mono ?_; rintro e w1 ⟨rfl, hb⟩; replace HB := Lib.hid (HB.out.trans (hb.mono HB.out.size)); clear hb)
      | (go_at_call 29; refine (Z2.out _).mono ?_; rintro e w1 ⟨rfl, hb⟩; replace HB := Lib.hid (HB.out.trans (hb.mono HB.out.size)); clear hb)
      | (go_at_call_of 30 yr; refine (O1.out _).mono ?_; rintro e w1 ⟨rfl, hb⟩; replace HB := Lib.hid (HB.out.trans (hb.mono HB.out.size)); clear hb)
      | (go_at_call 31; refine (O2.out _).mono ?_; rintro e w1 ⟨rfl, hb⟩; replace HB := Lib.hid (HB.out.trans (hb.mono HB.out.size)); clear hb)
      | (go_at_call 9; refine (awake_any _ ?_ ?_).mono ?_; exact HT.out.below HB.out; exact HP.out.below HB.out; rintro e w8 ⟨rfl, hb⟩; replace HB := Lib.hid (HB.out.trans (hb.mono HB.out.size)); clear hb))
      go_ret
      exact ⟨rfl, HB.out⟩
    · have e3 : weekdayC T2 = (0, 7) := by unfold weekdayC; rw [if_neg hv3]
      rw [e3] at K3
      generalize wdC t = av at *
      clear hv hv3 e1 e2 e3 hnext
      go_enter Tryd.func6, Tryd.ntmps6
      go_wp2_with (first
      | (go_at_call_of 14 T2; refine (K3.out _).mono ?_; rintro e w1 ⟨rfl, hb⟩; replace HB := Lib.hid (HB.out.trans (hb.mono HB.out.size)); clear hb)
      | (go_at_call_of 30 yv; refine (O3.out _).mono ?_; rintro e w1 ⟨rfl, hb⟩; replace HB := Lib.hid (HB.out.trans (hb.mono HB.out.size)); clear hb)
      | (go_at_call_of 14 t; refine (K1.out _).mono ?_; rintro e w1 ⟨rfl, hb⟩; replace HB := Lib.hid (HB.out.trans (hb.mono HB.out.size)); clear hb)
      | (go_at_call 25; refine (K2.out _).mono ?_; rintro e w1 ⟨rfl, hb⟩; replace HB := Lib.hid (HB.out.trans (hb.mono HB.out.size)); clear hb)
      | (go_at_call 26; refine (Y1.out _).mono ?_; rintro e w1 ⟨rfl, hb⟩; replace HB := Lib.hid (HB.out.trans (hb.mono HB.out.size)); clear hb)
      | (go_at_call 27; refine (Y2.out _).mono ?_; rintro e w1 ⟨rfl, hb⟩; replace HB := Lib.hid (HB.out.trans (hb.mono HB.out.size)); clear hb)
      | (go_at_call 28; refine (Z1.out _).mono ?_; rintro e w1 ⟨rfl, hb⟩; replace HB := Lib.hid (HB.out.trans (hb.mono HB.out.size)); clear hb)
      | (go_at_call 29; refine (Z2.out _).mono ?_; rintro e w1 ⟨rfl, hb⟩; replace HB := Lib.hid (HB.out.trans (hb.mono HB.out.size)); clear hb)
      | (go_at_call_of 30 yr; refine (O1.out _).mono ?_; rintro e w1 ⟨rfl, hb⟩; replace HB := Lib.hid (HB.out.trans (hb.mono HB.out.size)); clear hb)
      | (go_at_call 31; refine (O2.out _).mono ?_; rintro e w1 ⟨rfl, hb⟩; replace HB := Lib.hid (HB.out.trans (hb.mono HB.out.size)); clear hb)
      | (go_at_call 9; refine (awake_any _ ?_ ?_).mono ?_; exact HT.out.below HB.out; exact HP.out.below HB.out; rintro e w8 ⟨rfl, hb⟩; replace HB := Lib.hid (HB.out.trans (hb.mono HB.out.size)); clear hb))
      go_ret
      exact ⟨rfl, HB.out⟩
  · have e1 : weekdayC t = (0, 7) := by unfold weekdayC; rw [if_neg hv]
    have e2 : weekC t = ((0, 0), 7) := by unfold weekC; rw [if_neg hv]
    rw [e1] at K1 K2
    rw [e2] at Z1 Z2
    clear hv e1 e2
    go_enter Tryd.func6, Tryd.ntmps6
    go_wp2_with (first
      | (go_at_call_of 14 t; refine (K1.out _).mono ?_; rintro e w1 ⟨rfl, hb⟩; replace HB := Lib.hid (HB.out.trans (hb.mono HB.out.size)); clear hb)
      | (go_at_call 25; refine (K2.out _).mono ?_; rintro e w1 ⟨rfl, hb⟩; replace HB := Lib.hid (HB.out.trans (hb.mono HB.out.size)); clear hb)
      | (go_at_call 26; refine (Y1.out _).mono ?_; rintro e w1 ⟨rfl, hb⟩; replace HB := Lib.hid (HB.out.trans (hb.mono HB.out.size)); clear hb)
      | (go_at_call 27; refine (Y2.out _).mono ?_; rintro e w1 ⟨rfl, hb⟩; replace HB := Lib.hid (HB.out.trans (hb.mono HB.out.size)); clear hb)
      | (go_at_call 28; refine (Z1.out _).mono ?_; rintro e w1 ⟨rfl, hb⟩; replace HB := Lib.hid (HB.out.trans (hb.mono HB.out.size)); clear hb)
      | (go_at_call 29; refine (Z2.out _).mono ?_; rintro e w1 ⟨rfl, hb⟩; replace HB := Lib.hid (HB.out.trans (hb.mono HB.out.size)); clear hb)
      | (go_at_call_of 30 yr; refine (O1.out _).mono ?_; rintro e w1 ⟨rfl, hb⟩; replace HB := Lib.hid (HB.out.trans (hb.mono HB.out.size)); clear hb)
      | (go_at_call 31; refine (O2.out _).mono ?_; rintro e w1 ⟨rfl, hb⟩; replace HB := Lib.hid (HB.out.trans (hb.mono HB.out.size)); clear hb)
      | (go_at_call 9; refine (awake_any _ ?_ ?_).mono ?_; exact HT.out.below HB.out; exact HP.out.below HB.out; rintro e w8 ⟨rfl, hb⟩; replace HB := Lib.hid (HB.out.trans (hb.mono HB.out.size)); clear hb))
    go_ret
    exact ⟨rfl, HB.out⟩
end Go.Proofs.YtmidphmniikdpaaDoor.clockWeeks
