/- 'ClockEaster' returns true: the walk. -/
import Derived.Test.YtmidphmniikdpaaDoorCREaster
import Derived.Test.YtmidphmniikdpaaDoorCDatesW
namespace Go.Proofs.YtmidphmniikdpaaDoor.clockEaster
set_option linter.unusedVariables false
set_option linter.unusedSimpArgs false
open Go.RowKit
theorem date_e {y m d : Int} (h1 : 1 ≤ y) (h2 : y ≤ 9999) (hm : 1 ≤ m) (hm2 : m ≤ 12) (hd : 1 ≤ d) (hd2 : d ≤ dim y m) : datesC ((dayNo y m d - 719162) * 86400) = (⟨y, m, d, 0, 0, 0⟩, 0) ∧ validI ((dayNo y m d - 719162) * 86400) = true ∧ wdC ((dayNo y m d - 719162) * 86400) = dayNo y m d % 7 + 1 := by
  have hv : validB y m d 0 0 0 = true := by simp only [validB, decide_eq_true_eq]; omega
  have h := date_time hv
  rw [show (dayNo y m d - 719162) * 86400 + 0 * 3600 + 0 * 60 + 0 = (dayNo y m d - 719162) * 86400 by omega] at h
  refine ⟨?_, h.1, ?_⟩
  · unfold datesC; rw [if_pos h.1, h.2]
  · unfold wdC dayOf; omega
set_option maxRecDepth 100000 in
set_option maxHeartbeats 3200000 in
theorem walk (y : Int) (w : World) (hT : SpaceIs w) (hP : PowIs w) :
    Calls Tryd.prog 4 #[.int .i64 y] w fun e w' => e = .returned (.bool true) ∧ Below w.heap.size w w' := by
  have E1 := Lib.hid (fun W => Easter_any y W)
  have E2 := Lib.hid (fun W => rEaster_any y W)
  have HT := Lib.hid hT
  have HP := Lib.hid hP
  by_cases hv : winI y 1 9999 = true
  · have he : easterC y = ((dayNo y (eMonth y) (eDom y) - 719162) * 86400, 0) := by unfold easterC; rw [if_pos hv]
    rw [he] at E1 E2
    simp [winI] at hv
    have hlaw := easter_law hv.1 hv.2
    have hdim3 : dim y 3 = 31 := by simp [dim]
    have hdim4 : dim y 4 = 30 := by simp [dim]
    have hdd := date_e (y := y) (m := eMonth y) (d := eDom y) hv.1 hv.2 (by omega) (by omega) (by omega) (by rcases hlaw.1 with h | h <;> rw [h.1] <;> omega)
    have hw7 : dayNo y (eMonth y) (eDom y) % 7 + 1 = 7 := by omega
    have D := Lib.hid (fun W => Date_any ((dayNo y (eMonth y) (eDom y) - 719162) * 86400) W)
    have K := Lib.hid (fun W => Weekday_any ((dayNo y (eMonth y) (eDom y) - 719162) * 86400) W)
    have hwk : weekdayC ((dayNo y (eMonth y) (eDom y) - 719162) * 86400) = (7, 0) := by unfold weekdayC; rw [if_pos hdd.2.1, hdd.2.2, hw7]
    rw [hdd.1] at D
    rw [hwk] at K
    have hl1 := hlaw.1
    generalize (dayNo y (eMonth y) (eDom y) - 719162) * 86400 = T at *
    generalize eMonth y = em at *
    generalize eDom y = ed at *
    simp only [DT.v] at D
    clear hdd hwk hw7 hlaw he hdim3 hdim4 hT hP hv
    rcases hl1 with ⟨rfl, hd1, hd2⟩ | ⟨rfl, hd1, hd2⟩
    · go_enter Tryd.func4, Tryd.ntmps4
      go_wp2_with (first
        | (go_at_call 12; refine (E1.out _).mono ?_; rintro e w1 ⟨rfl, rfl⟩)
        | (go_at_call 13; refine (E2.out _).mono ?_; rintro e w1 ⟨rfl, rfl⟩)
        | (go_at_call 14; refine (K.out _).mono ?_; rintro e w1 ⟨rfl, m1, rfl⟩)
        | (go_at_call 15; refine (D.out _).mono ?_; rintro e w2 ⟨rfl, hb2⟩; obtain ⟨cx0, cx1, cx2, cx3, cx4, cx5⟩ := cells6_new w2 (.int .i64 y) (.int .i64 3) (.int .i64 ed) (.int .i64 0) (.int .i64 0) (.int .i64 0) 30; have HB := Lib.hid ((((below_drewN (Below.refl w.heap.size w) m1).trans (hb2.mono (by simp))).alloc (Nat.le_trans (by simp) hb2.size) (.cells #[.int .i64 y, .int .i64 3, .int .i64 ed, .int .i64 0, .int .i64 0, .int .i64 0] 30))))
        | (go_at_call 9; refine (awake_any _ ?_ ?_).mono ?_; exact HT.out.below HB.out; exact HP.out.below HB.out; rintro e w8 ⟨rfl, hb8⟩))
      go_ret
      exact ⟨rfl, HB.out.trans (hb8.mono HB.out.size)⟩
    · go_enter Tryd.func4, Tryd.ntmps4
      go_wp2_with (first
        | (go_at_call 12; refine (E1.out _).mono ?_; rintro e w1 ⟨rfl, rfl⟩)
        | (go_at_call 13; refine (E2.out _).mono ?_; rintro e w1 ⟨rfl, rfl⟩)
        | (go_at_call 14; refine (K.out _).mono ?_; rintro e w1 ⟨rfl, m1, rfl⟩)
        | (go_at_call 15; refine (D.out _).mono ?_; rintro e w2 ⟨rfl, hb2⟩; obtain ⟨cx0, cx1, cx2, cx3, cx4, cx5⟩ := cells6_new w2 (.int .i64 y) (.int .i64 4) (.int .i64 ed) (.int .i64 0) (.int .i64 0) (.int .i64 0) 30; have HB := Lib.hid ((((below_drewN (Below.refl w.heap.size w) m1).trans (hb2.mono (by simp))).alloc (Nat.le_trans (by simp) hb2.size) (.cells #[.int .i64 y, .int .i64 4, .int .i64 ed, .int .i64 0, .int .i64 0, .int .i64 0] 30))))
        | (go_at_call 9; refine (awake_any _ ?_ ?_).mono ?_; exact HT.out.below HB.out; exact HP.out.below HB.out; rintro e w8 ⟨rfl, hb8⟩))
      go_ret
      exact ⟨rfl, HB.out.trans (hb8.mono HB.out.size)⟩
  · have he : easterC y = (0, 7) := by unfold easterC; rw [if_neg hv]
    rw [he] at E1 E2
    clear hT hP hv he
    go_enter Tryd.func4, Tryd.ntmps4
    go_wp2_with (first
        | (go_at_call 12; refine (E1.out _).mono ?_; rintro e w1 ⟨rfl, rfl⟩)
        | (go_at_call 13; refine (E2.out _).mono ?_; rintro e w1 ⟨rfl, rfl⟩)
        | (go_at_call 9; refine (awake_any _ HT.out HP.out).mono ?_; rintro e w8 ⟨rfl, hb8⟩))
    go_ret
    exact ⟨rfl, hb8⟩
end Go.Proofs.YtmidphmniikdpaaDoor.clockEaster
