/- Contracts of the clock's tests of a date, both ones. Contracts of the clock's times of dates, both ones. -/
import Derived.Test.YtkahakhhdiffcaaGreatDoorCNum
namespace Go.Proofs.YtkahakhhdiffcaaGreatDoor
set_option linter.unusedVariables false
set_option linter.unusedSimpArgs false
open Go.RowKit

theorem below_drewN {B : Nat} {w w' : World} (h : Below B w w') (n : Nat) : Below B w (w'.drewN n) := h.trans ⟨rfl, rfl, rfl, Nat.le_refl _, fun _ _ => rfl⟩
theorem below_alloc1 (w : World) (o : Obj) : Below w.heap.size w (w.alloc o) := (Below.refl _ w).alloc (Nat.le_refl _) o
theorem cells6_new (w : World) (a b c d e f : Value) (t : Nat) :
    (w.alloc (.cells #[a, b, c, d, e, f] t)).cell? ⟨w.heap.size, 0, none⟩ = some a ∧ (w.alloc (.cells #[a, b, c, d, e, f] t)).cell? ⟨w.heap.size, 1, none⟩ = some b ∧ (w.alloc (.cells #[a, b, c, d, e, f] t)).cell? ⟨w.heap.size, 2, none⟩ = some c ∧
    (w.alloc (.cells #[a, b, c, d, e, f] t)).cell? ⟨w.heap.size, 3, none⟩ = some d ∧ (w.alloc (.cells #[a, b, c, d, e, f] t)).cell? ⟨w.heap.size, 4, none⟩ = some e ∧ (w.alloc (.cells #[a, b, c, d, e, f] t)).cell? ⟨w.heap.size, 5, none⟩ = some f := by
  have hb := heap_alloc_new w (.cells #[a, b, c, d, e, f] t)
  refine ⟨?_, ?_, ?_, ?_, ?_, ?_⟩ <;> (simp only [World.cell?, hb]; rfl)
noncomputable def validB (y m d h mi s : Int) : Bool := decide (1 ≤ y ∧ y ≤ 9999 ∧ 1 ≤ m ∧ m ≤ 12 ∧ 1 ≤ d ∧ d ≤ dim y m ∧ 0 ≤ h ∧ h ≤ 23 ∧ 0 ≤ mi ∧ mi ≤ 59 ∧ 0 ≤ s ∧ s ≤ 59)
theorem validB_eq (y m d h mi s : Int) : validB y m d h mi s = (winI y 1 9999 && winI m 1 12 && winI d 1 (dim y m) && winI h 0 23 && winI mi 0 59 && winI s 0 59) := by
  rw [Bool.eq_iff_iff]
  simp [validB, winI]
  omega

set_option maxRecDepth 100000 in
set_option maxHeartbeats 3200000 in
theorem Valid_any (y m d h mi s : Int) (w : World) :
    Calls Tryz.prog 84 #[.agg #[.int .i64 y, .int .i64 m, .int .i64 d, .int .i64 h, .int .i64 mi, .int .i64 s]] w fun e w' => e = .returned (.bool (validB y m d h mi s)) ∧ Below w.heap.size w w' := by
  obtain ⟨c0, c1, c2, c3, c4, c5⟩ := cells6_new w (.int .i64 y) (.int .i64 m) (.int .i64 d) (.int .i64 h) (.int .i64 mi) (.int .i64 s) 39
  have HB := Lib.hid (below_alloc1 w (.cells #[.int .i64 y, .int .i64 m, .int .i64 d, .int .i64 h, .int .i64 mi, .int .i64 s] 39))
  have HV : Hid (validB y m d h mi s = (winI y 1 9999 && winI m 1 12 && winI d 1 (dim y m) && winI h 0 23 && winI mi 0 59 && winI s 0 59)) := validB_eq y m d h mi s
  have HD : Hid (winI y 1 9999 = true → winI m 1 12 = true → ∀ W, Calls Tryz.prog 49 #[.int .i64 y, .int .i64 m] W fun e w' => e = .returned (.int .i64 (dim y m)) ∧ W = w') := by
    intro a b W
    simp [winI] at a b
    exact days_any y m (by omega) (by omega) (by omega) W
  have H1 := Lib.hid (fun W => within_any y 1 9999 W)
  have H2 := Lib.hid (fun W => within_any m 1 12 W)
  have H3 := Lib.hid (fun W => within_any d 1 (dim y m) W)
  have H4 := Lib.hid (fun W => within_any h 0 23 W)
  have H5 := Lib.hid (fun W => within_any mi 0 59 W)
  have H6 := Lib.hid (fun W => within_any s 0 59 W)
  generalize dim y m = L at *
  generalize validB y m d h mi s = V at *
  generalize winI y 1 9999 = b1 at *
  generalize winI m 1 12 = b2 at *
  generalize winI d 1 L = b3 at *
  generalize winI h 0 23 = b4 at *
  generalize winI mi 0 59 = b5 at *
  generalize winI s 0 59 = b6 at *
  by_cases e1 : b1 = true
  · by_cases e2 : b2 = true
    · subst e1 e2
      have HDD := Lib.hid (HD.out rfl rfl)
      clear HD
      by_cases e3 : b3 = true
      · by_cases e4 : b4 = true
        · by_cases e5 : b5 = true
          · subst e3 e4 e5
            cases b6 <;> (go_enter Tryz.func84, Tryz.ntmps84; go_wp2_with fail; go_quiet (first | (go_at_call_of 42 y; exact Calls.quiet_of_same ((H1.out _).mono fun e w' h => ⟨h.1, h.2.symm⟩)) | (go_at_call_of 42 m; exact Calls.quiet_of_same ((H2.out _).mono fun e w' h => ⟨h.1, h.2.symm⟩)) | (go_at_call_of 42 d; exact Calls.quiet_of_same ((H3.out _).mono fun e w' h => ⟨h.1, h.2.symm⟩)) | (go_at_call_of 42 h; exact Calls.quiet_of_same ((H4.out _).mono fun e w' h => ⟨h.1, h.2.symm⟩)) | (go_at_call_of 42 mi; exact Calls.quiet_of_same ((H5.out _).mono fun e w' h => ⟨h.1, h.2.symm⟩)) | (go_at_call_of 42 s; exact Calls.quiet_of_same ((H6.out _).mono fun e w' h => ⟨h.1, h.2.symm⟩)) | (go_at_call 49; exact Calls.quiet_of_same ((HDD.out _).mono fun e w' h => ⟨h.1, h.2.symm⟩))); go_wp2_with fail; go_ret; exact ⟨ret_bool (by rw [HV.out]; simp), below_drewN HB.out _⟩)
          · rw [Bool.not_eq_true] at e5; subst e3 e4 e5; (go_enter Tryz.func84, Tryz.ntmps84; go_wp2_with fail; go_quiet (first | (go_at_call_of 42 y; exact Calls.quiet_of_same ((H1.out _).mono fun e w' h => ⟨h.1, h.2.symm⟩)) | (go_at_call_of 42 m; exact Calls.quiet_of_same ((H2.out _).mono fun e w' h => ⟨h.1, h.2.symm⟩)) | (go_at_call_of 42 d; exact Calls.quiet_of_same ((H3.out _).mono fun e w' h => ⟨h.1, h.2.symm⟩)) | (go_at_call_of 42 h; exact Calls.quiet_of_same ((H4.out _).mono fun e w' h => ⟨h.1, h.2.symm⟩)) | (go_at_call_of 42 mi; exact Calls.quiet_of_same ((H5.out _).mono fun e w' h => ⟨h.1, h.2.symm⟩)) | (go_at_call_of 42 s; exact Calls.quiet_of_same ((H6.out _).mono fun e w' h => ⟨h.1, h.2.symm⟩)) | (go_at_call 49; exact Calls.quiet_of_same ((HDD.out _).mono fun e w' h => ⟨h.1, h.2.symm⟩))); go_wp2_with fail; go_ret; exact ⟨ret_bool (by rw [HV.out]; simp), below_drewN HB.out _⟩)
        · rw [Bool.not_eq_true] at e4; subst e3 e4; (go_enter Tryz.func84, Tryz.ntmps84; go_wp2_with fail; go_quiet (first | (go_at_call_of 42 y; exact Calls.quiet_of_same ((H1.out _).mono fun e w' h => ⟨h.1, h.2.symm⟩)) | (go_at_call_of 42 m; exact Calls.quiet_of_same ((H2.out _).mono fun e w' h => ⟨h.1, h.2.symm⟩)) | (go_at_call_of 42 d; exact Calls.quiet_of_same ((H3.out _).mono fun e w' h => ⟨h.1, h.2.symm⟩)) | (go_at_call_of 42 h; exact Calls.quiet_of_same ((H4.out _).mono fun e w' h => ⟨h.1, h.2.symm⟩)) | (go_at_call_of 42 mi; exact Calls.quiet_of_same ((H5.out _).mono fun e w' h => ⟨h.1, h.2.symm⟩)) | (go_at_call_of 42 s; exact Calls.quiet_of_same ((H6.out _).mono fun e w' h => ⟨h.1, h.2.symm⟩)) | (go_at_call 49; exact Calls.quiet_of_same ((HDD.out _).mono fun e w' h => ⟨h.1, h.2.symm⟩))); go_wp2_with fail; go_ret; exact ⟨ret_bool (by rw [HV.out]; simp), below_drewN HB.out _⟩)
      · rw [Bool.not_eq_true] at e3; subst e3; (go_enter Tryz.func84, Tryz.ntmps84; go_wp2_with fail; go_quiet (first | (go_at_call_of 42 y; exact Calls.quiet_of_same ((H1.out _).mono fun e w' h => ⟨h.1, h.2.symm⟩)) | (go_at_call_of 42 m; exact Calls.quiet_of_same ((H2.out _).mono fun e w' h => ⟨h.1, h.2.symm⟩)) | (go_at_call_of 42 d; exact Calls.quiet_of_same ((H3.out _).mono fun e w' h => ⟨h.1, h.2.symm⟩)) | (go_at_call_of 42 h; exact Calls.quiet_of_same ((H4.out _).mono fun e w' h => ⟨h.1, h.2.symm⟩)) | (go_at_call_of 42 mi; exact Calls.quiet_of_same ((H5.out _).mono fun e w' h => ⟨h.1, h.2.symm⟩)) | (go_at_call_of 42 s; exact Calls.quiet_of_same ((H6.out _).mono fun e w' h => ⟨h.1, h.2.symm⟩)) | (go_at_call 49; exact Calls.quiet_of_same ((HDD.out _).mono fun e w' h => ⟨h.1, h.2.symm⟩))); go_wp2_with fail; go_ret; exact ⟨ret_bool (by rw [HV.out]; simp), below_drewN HB.out _⟩)
    · rw [Bool.not_eq_true] at e2; subst e1 e2; have HDD := HB; clear HD; (go_enter Tryz.func84, Tryz.ntmps84; go_wp2_with fail; go_quiet (first | (go_at_call_of 42 y; exact Calls.quiet_of_same ((H1.out _).mono fun e w' h => ⟨h.1, h.2.symm⟩)) | (go_at_call_of 42 m; exact Calls.quiet_of_same ((H2.out _).mono fun e w' h => ⟨h.1, h.2.symm⟩)) | (go_at_call_of 42 d; exact Calls.quiet_of_same ((H3.out _).mono fun e w' h => ⟨h.1, h.2.symm⟩)) | (go_at_call_of 42 h; exact Calls.quiet_of_same ((H4.out _).mono fun e w' h => ⟨h.1, h.2.symm⟩)) | (go_at_call_of 42 mi; exact Calls.quiet_of_same ((H5.out _).mono fun e w' h => ⟨h.1, h.2.symm⟩)) | (go_at_call_of 42 s; exact Calls.quiet_of_same ((H6.out _).mono fun e w' h => ⟨h.1, h.2.symm⟩)) | (go_at_call 49; exact Calls.quiet_of_same ((HDD.out _).mono fun e w' h => ⟨h.1, h.2.symm⟩))); go_wp2_with fail; go_ret; exact ⟨ret_bool (by rw [HV.out]; simp), below_drewN HB.out _⟩)
  · rw [Bool.not_eq_true] at e1; subst e1; have HDD := HB; clear HD; (go_enter Tryz.func84, Tryz.ntmps84; go_wp2_with fail; go_quiet (first | (go_at_call_of 42 y; exact Calls.quiet_of_same ((H1.out _).mono fun e w' h => ⟨h.1, h.2.symm⟩)) | (go_at_call_of 42 m; exact Calls.quiet_of_same ((H2.out _).mono fun e w' h => ⟨h.1, h.2.symm⟩)) | (go_at_call_of 42 d; exact Calls.quiet_of_same ((H3.out _).mono fun e w' h => ⟨h.1, h.2.symm⟩)) | (go_at_call_of 42 h; exact Calls.quiet_of_same ((H4.out _).mono fun e w' h => ⟨h.1, h.2.symm⟩)) | (go_at_call_of 42 mi; exact Calls.quiet_of_same ((H5.out _).mono fun e w' h => ⟨h.1, h.2.symm⟩)) | (go_at_call_of 42 s; exact Calls.quiet_of_same ((H6.out _).mono fun e w' h => ⟨h.1, h.2.symm⟩)) | (go_at_call 49; exact Calls.quiet_of_same ((HDD.out _).mono fun e w' h => ⟨h.1, h.2.symm⟩))); go_wp2_with fail; go_ret; exact ⟨ret_bool (by rw [HV.out]; simp), below_drewN HB.out _⟩)

set_option maxRecDepth 100000 in
set_option maxHeartbeats 3200000 in
theorem rValid_any (y m d h mi s : Int) (w : World) :
    Calls Tryz.prog 126 #[.agg #[.int .i64 y, .int .i64 m, .int .i64 d, .int .i64 h, .int .i64 mi, .int .i64 s]] w fun e w' => e = .returned (.bool (validB y m d h mi s)) ∧ Below w.heap.size w w' := by
  obtain ⟨c0, c1, c2, c3, c4, c5⟩ := cells6_new w (.int .i64 y) (.int .i64 m) (.int .i64 d) (.int .i64 h) (.int .i64 mi) (.int .i64 s) 39
  have HB := Lib.hid (below_alloc1 w (.cells #[.int .i64 y, .int .i64 m, .int .i64 d, .int .i64 h, .int .i64 mi, .int .i64 s] 39))
  have HV : Hid (validB y m d h mi s = (winI y 1 9999 && winI m 1 12 && winI d 1 (dim y m) && winI h 0 23 && winI mi 0 59 && winI s 0 59)) := validB_eq y m d h mi s
  have HD : Hid (winI y 1 9999 = true → winI m 1 12 = true → ∀ W, Calls Tryz.prog 27 #[.int .i64 y, .int .i64 m] W fun e w' => e = .returned (.int .i64 (dim y m)) ∧ W = w') := by
    intro a b W
    simp [winI] at a b
    exact rlength_any y m (by omega) W
  have H1 := Lib.hid (fun W => rin_any y 1 9999 W)
  have H2 := Lib.hid (fun W => rin_any m 1 12 W)
  have H3 := Lib.hid (fun W => rin_any d 1 (dim y m) W)
  have H4 := Lib.hid (fun W => rin_any h 0 23 W)
  have H5 := Lib.hid (fun W => rin_any mi 0 59 W)
  have H6 := Lib.hid (fun W => rin_any s 0 59 W)
  generalize dim y m = L at *
  generalize validB y m d h mi s = V at *
  generalize winI y 1 9999 = b1 at *
  generalize winI m 1 12 = b2 at *
  generalize winI d 1 L = b3 at *
  generalize winI h 0 23 = b4 at *
  generalize winI mi 0 59 = b5 at *
  generalize winI s 0 59 = b6 at *
  by_cases e1 : b1 = true
  · by_cases e2 : b2 = true
    · subst e1 e2
      have HDD := Lib.hid (HD.out rfl rfl)
      clear HD
      by_cases e3 : b3 = true
      · by_cases e4 : b4 = true
        · by_cases e5 : b5 = true
          · subst e3 e4 e5
            cases b6 <;> (go_enter Tryz.func126, Tryz.ntmps126; go_wp2_with fail; go_quiet (first | (go_at_call_of 50 y; exact Calls.quiet_of_same ((H1.out _).mono fun e w' h => ⟨h.1, h.2.symm⟩)) | (go_at_call_of 50 m; exact Calls.quiet_of_same ((H2.out _).mono fun e w' h => ⟨h.1, h.2.symm⟩)) | (go_at_call_of 50 d; exact Calls.quiet_of_same ((H3.out _).mono fun e w' h => ⟨h.1, h.2.symm⟩)) | (go_at_call_of 50 h; exact Calls.quiet_of_same ((H4.out _).mono fun e w' h => ⟨h.1, h.2.symm⟩)) | (go_at_call_of 50 mi; exact Calls.quiet_of_same ((H5.out _).mono fun e w' h => ⟨h.1, h.2.symm⟩)) | (go_at_call_of 50 s; exact Calls.quiet_of_same ((H6.out _).mono fun e w' h => ⟨h.1, h.2.symm⟩)) | (go_at_call 27; exact Calls.quiet_of_same ((HDD.out _).mono fun e w' h => ⟨h.1, h.2.symm⟩))); go_wp2_with fail; go_ret; exact ⟨ret_bool (by rw [HV.out]; simp), below_drewN HB.out _⟩)
          · rw [Bool.not_eq_true] at e5; subst e3 e4 e5; (go_enter Tryz.func126, Tryz.ntmps126; go_wp2_with fail; go_quiet (first | (go_at_call_of 50 y; exact Calls.quiet_of_same ((H1.out _).mono fun e w' h => ⟨h.1, h.2.symm⟩)) | (go_at_call_of 50 m; exact Calls.quiet_of_same ((H2.out _).mono fun e w' h => ⟨h.1, h.2.symm⟩)) | (go_at_call_of 50 d; exact Calls.quiet_of_same ((H3.out _).mono fun e w' h => ⟨h.1, h.2.symm⟩)) | (go_at_call_of 50 h; exact Calls.quiet_of_same ((H4.out _).mono fun e w' h => ⟨h.1, h.2.symm⟩)) | (go_at_call_of 50 mi; exact Calls.quiet_of_same ((H5.out _).mono fun e w' h => ⟨h.1, h.2.symm⟩)) | (go_at_call_of 50 s; exact Calls.quiet_of_same ((H6.out _).mono fun e w' h => ⟨h.1, h.2.symm⟩)) | (go_at_call 27; exact Calls.quiet_of_same ((HDD.out _).mono fun e w' h => ⟨h.1, h.2.symm⟩))); go_wp2_with fail; go_ret; exact ⟨ret_bool (by rw [HV.out]; simp), below_drewN HB.out _⟩)
        · rw [Bool.not_eq_true] at e4; subst e3 e4; (go_enter Tryz.func126, Tryz.ntmps126; go_wp2_with fail; go_quiet (first | (go_at_call_of 50 y; exact Calls.quiet_of_same ((H1.out _).mono fun e w' h => ⟨h.1, h.2.symm⟩)) | (go_at_call_of 50 m; exact Calls.quiet_of_same ((H2.out _).mono fun e w' h => ⟨h.1, h.2.symm⟩)) | (go_at_call_of 50 d; exact Calls.quiet_of_same ((H3.out _).mono fun e w' h => ⟨h.1, h.2.symm⟩)) | (go_at_call_of 50 h; exact Calls.quiet_of_same ((H4.out _).mono fun e w' h => ⟨h.1, h.2.symm⟩)) | (go_at_call_of 50 mi; exact Calls.quiet_of_same ((H5.out _).mono fun e w' h => ⟨h.1, h.2.symm⟩)) | (go_at_call_of 50 s; exact Calls.quiet_of_same ((H6.out _).mono fun e w' h => ⟨h.1, h.2.symm⟩)) | (go_at_call 27; exact Calls.quiet_of_same ((HDD.out _).mono fun e w' h => ⟨h.1, h.2.symm⟩))); go_wp2_with fail; go_ret; exact ⟨ret_bool (by rw [HV.out]; simp), below_drewN HB.out _⟩)
      · rw [Bool.not_eq_true] at e3; subst e3; (go_enter Tryz.func126, Tryz.ntmps126; go_wp2_with fail; go_quiet (first | (go_at_call_of 50 y; exact Calls.quiet_of_same ((H1.out _).mono fun e w' h => ⟨h.1, h.2.symm⟩)) | (go_at_call_of 50 m; exact Calls.quiet_of_same ((H2.out _).mono fun e w' h => ⟨h.1, h.2.symm⟩)) | (go_at_call_of 50 d; exact Calls.quiet_of_same ((H3.out _).mono fun e w' h => ⟨h.1, h.2.symm⟩)) | (go_at_call_of 50 h; exact Calls.quiet_of_same ((H4.out _).mono fun e w' h => ⟨h.1, h.2.symm⟩)) | (go_at_call_of 50 mi; exact Calls.quiet_of_same ((H5.out _).mono fun e w' h => ⟨h.1, h.2.symm⟩)) | (go_at_call_of 50 s; exact Calls.quiet_of_same ((H6.out _).mono fun e w' h => ⟨h.1, h.2.symm⟩)) | (go_at_call 27; exact Calls.quiet_of_same ((HDD.out _).mono fun e w' h => ⟨h.1, h.2.symm⟩))); go_wp2_with fail; go_ret; exact ⟨ret_bool (by rw [HV.out]; simp), below_drewN HB.out _⟩)
    · rw [Bool.not_eq_true] at e2; subst e1 e2; have HDD := HB; clear HD; (go_enter Tryz.func126, Tryz.ntmps126; go_wp2_with fail; go_quiet (first | (go_at_call_of 50 y; exact Calls.quiet_of_same ((H1.out _).mono fun e w' h => ⟨h.1, h.2.symm⟩)) | (go_at_call_of 50 m; exact Calls.quiet_of_same ((H2.out _).mono fun e w' h => ⟨h.1, h.2.symm⟩)) | (go_at_call_of 50 d; exact Calls.quiet_of_same ((H3.out _).mono fun e w' h => ⟨h.1, h.2.symm⟩)) | (go_at_call_of 50 h; exact Calls.quiet_of_same ((H4.out _).mono fun e w' h => ⟨h.1, h.2.symm⟩)) | (go_at_call_of 50 mi; exact Calls.quiet_of_same ((H5.out _).mono fun e w' h => ⟨h.1, h.2.symm⟩)) | (go_at_call_of 50 s; exact Calls.quiet_of_same ((H6.out _).mono fun e w' h => ⟨h.1, h.2.symm⟩)) | (go_at_call 27; exact Calls.quiet_of_same ((HDD.out _).mono fun e w' h => ⟨h.1, h.2.symm⟩))); go_wp2_with fail; go_ret; exact ⟨ret_bool (by rw [HV.out]; simp), below_drewN HB.out _⟩)
  · rw [Bool.not_eq_true] at e1; subst e1; have HDD := HB; clear HD; (go_enter Tryz.func126, Tryz.ntmps126; go_wp2_with fail; go_quiet (first | (go_at_call_of 50 y; exact Calls.quiet_of_same ((H1.out _).mono fun e w' h => ⟨h.1, h.2.symm⟩)) | (go_at_call_of 50 m; exact Calls.quiet_of_same ((H2.out _).mono fun e w' h => ⟨h.1, h.2.symm⟩)) | (go_at_call_of 50 d; exact Calls.quiet_of_same ((H3.out _).mono fun e w' h => ⟨h.1, h.2.symm⟩)) | (go_at_call_of 50 h; exact Calls.quiet_of_same ((H4.out _).mono fun e w' h => ⟨h.1, h.2.symm⟩)) | (go_at_call_of 50 mi; exact Calls.quiet_of_same ((H5.out _).mono fun e w' h => ⟨h.1, h.2.symm⟩)) | (go_at_call_of 50 s; exact Calls.quiet_of_same ((H6.out _).mono fun e w' h => ⟨h.1, h.2.symm⟩)) | (go_at_call 27; exact Calls.quiet_of_same ((HDD.out _).mono fun e w' h => ⟨h.1, h.2.symm⟩))); go_wp2_with fail; go_ret; exact ⟨ret_bool (by rw [HV.out]; simp), below_drewN HB.out _⟩)
end Go.Proofs.YtkahakhhdiffcaaGreatDoor
namespace Go.Proofs.YtkahakhhdiffcaaGreatDoor
set_option linter.unusedVariables false
set_option linter.unusedSimpArgs false
open Go.RowKit

theorem cells6_below (w : World) (a b c d e f : Value) (t : Nat) (w' : World) (h : Below (w.heap.size + 1) (w.alloc (.cells #[a, b, c, d, e, f] t)) w') :
    w'.cell? ⟨w.heap.size, 0, none⟩ = some a ∧ w'.cell? ⟨w.heap.size, 1, none⟩ = some b ∧ w'.cell? ⟨w.heap.size, 2, none⟩ = some c ∧ w'.cell? ⟨w.heap.size, 3, none⟩ = some d ∧ w'.cell? ⟨w.heap.size, 4, none⟩ = some e ∧ w'.cell? ⟨w.heap.size, 5, none⟩ = some f := by
  obtain ⟨c0, c1, c2, c3, c4, c5⟩ := cells6_new w a b c d e f t
  refine ⟨(h.cell (p := ⟨w.heap.size, 0, none⟩) (Nat.lt_succ_self _)).trans c0, (h.cell (p := ⟨w.heap.size, 1, none⟩) (Nat.lt_succ_self _)).trans c1, (h.cell (p := ⟨w.heap.size, 2, none⟩) (Nat.lt_succ_self _)).trans c2, (h.cell (p := ⟨w.heap.size, 3, none⟩) (Nat.lt_succ_self _)).trans c3, (h.cell (p := ⟨w.heap.size, 4, none⟩) (Nat.lt_succ_self _)).trans c4, (h.cell (p := ⟨w.heap.size, 5, none⟩) (Nat.lt_succ_self _)).trans c5⟩

theorem dayNo_bound {y m d : Int} (h1 : 1 ≤ y) (h2 : y ≤ 100000) (hm : 1 ≤ m) (hm2 : m ≤ 12) (hd : -1000000 ≤ d) (hd2 : d ≤ 1000000) : -1000001 ≤ dayNo y m d ∧ dayNo y m d ≤ 40000000 := by
  have q2 := bef_far h1
  have q3 : bef 1 = 0 := by decide
  have q4 := leap1_le y
  have q1 := cum_mono y (m := 1) (n := m) (by omega) (by omega) (by omega)
  have q5 := cum_mono y (m := m) (n := 13) (by omega) (by omega) (by omega)
  rw [cum_13] at q5
  rw [cum_one] at q1
  unfold dayNo
  omega

set_option maxRecDepth 100000 in
set_option maxHeartbeats 1600000 in
theorem time_any (y m d h mi s : Int) (h1 : 1 ≤ y) (h2 : y ≤ 100000) (hm : 1 ≤ m) (hm2 : m ≤ 12) (hd : -1000000 ≤ d) (hd2 : d ≤ 1000000) (hh : 0 ≤ h) (hh2 : h ≤ 1000) (hi : 0 ≤ mi) (hi2 : mi ≤ 1000) (hs : 0 ≤ s) (hs2 : s ≤ 1000) (w : World) :
    Calls Tryz.prog 85 #[.agg #[.int .i64 y, .int .i64 m, .int .i64 d, .int .i64 h, .int .i64 mi, .int .i64 s]] w fun e w' => e = .returned (.int .i64 ((dayNo y m d - 719162) * 86400 + h * 3600 + mi * 60 + s)) ∧ Below w.heap.size w w' := by
  obtain ⟨c0, c1, c2, c3, c4, c5⟩ := cells6_new w (.int .i64 y) (.int .i64 m) (.int .i64 d) (.int .i64 h) (.int .i64 mi) (.int .i64 s) 39
  have HB := Lib.hid (below_alloc1 w (.cells #[.int .i64 y, .int .i64 m, .int .i64 d, .int .i64 h, .int .i64 mi, .int .i64 s] 39))
  have HN := Lib.hid (fun W => number_any y m d h1 h2 hm hm2 hd hd2 W)
  have hb := dayNo_bound h1 h2 hm hm2 hd hd2
  obtain ⟨q, hq⟩ : ∃ q, dayNo y m d - 719162 = q := ⟨_, rfl⟩
  have hq1 : -2000000 ≤ q ∧ q ≤ 40000000 := by omega
  rw [hq] at HN ⊢
  clear hq hb
  go_enter Tryz.func85, Tryz.ntmps85
  go_wp2_with fail
  go_quiet ((go_at_call 43; exact Calls.quiet_of_same ((HN.out _).mono fun e w' h => ⟨h.1, h.2.symm⟩)))
  go_wp2_with fail
  go_ret
  exact ⟨ret_int (by omega), below_drewN HB.out _⟩

/-- What both 'Time's tell. -/
noncomputable def timeC (y m d h mi s : Int) : Int × Int := if validB y m d h mi s = true then ((dayNo y m d - 719162) * 86400 + h * 3600 + mi * 60 + s, 0) else (0, 1)
set_option maxRecDepth 100000 in
set_option maxHeartbeats 1600000 in
theorem rTime_any (y m d h mi s : Int) (w : World) :
    Calls Tryz.prog 95 #[.agg #[.int .i64 y, .int .i64 m, .int .i64 d, .int .i64 h, .int .i64 mi, .int .i64 s]] w fun e w' => e = .returned (.tuple #[.int .i64 (timeC y m d h mi s).1, .int .i64 (timeC y m d h mi s).2]) ∧ Below w.heap.size w w' := by
  obtain ⟨c0, c1, c2, c3, c4, c5⟩ := cells6_new w (.int .i64 y) (.int .i64 m) (.int .i64 d) (.int .i64 h) (.int .i64 mi) (.int .i64 s) 39
  have HC := Lib.hid (cells6_below w (.int .i64 y) (.int .i64 m) (.int .i64 d) (.int .i64 h) (.int .i64 mi) (.int .i64 s) 39)
  have HB := Lib.hid (below_alloc1 w (.cells #[.int .i64 y, .int .i64 m, .int .i64 d, .int .i64 h, .int .i64 mi, .int .i64 s] 39))
  have HV := Lib.hid (rValid_any y m d h mi s (w.alloc (.cells #[.int .i64 y, .int .i64 m, .int .i64 d, .int .i64 h, .int .i64 mi, .int .i64 s] 39)))
  have hsz : (w.alloc (.cells #[.int .i64 y, .int .i64 m, .int .i64 d, .int .i64 h, .int .i64 mi, .int .i64 s] 39)).heap.size = w.heap.size + 1 := by simp
  rw [hsz] at HV
  unfold timeC
  by_cases hv : validB y m d h mi s = true
  · rw [if_pos hv]
    rw [hv] at HV
    simp [validB] at hv
    have hd31 := dim_ge y m
    have HT := Lib.hid (fun W => rnumber_any y m d (by omega) (by omega) (by omega) (by omega) (by omega) (by omega) W)
    have hb := dayNo_bound (y := y) (m := m) (d := d) (by omega) (by omega) (by omega) (by omega) (by omega) (by omega)
    generalize dayNo y m d = q at *
    have hx : 0 ≤ h ∧ h ≤ 23 ∧ 0 ≤ mi ∧ mi ≤ 59 ∧ 0 ≤ s ∧ s ≤ 59 := by omega
    clear hv hd31
    obtain ⟨x0, x1, x2, x3, x4, x5⟩ := hx
    go_enter Tryz.func95, Tryz.ntmps95
    go_wp2_with (go_at_call 126; refine HV.out.mono ?_; rintro e w1 ⟨rfl, hb1⟩; obtain ⟨c0, c1, c2, c3, c4, c5⟩ := HC.out _ hb1; replace HB := Lib.hid (HB.out.trans (hb1.mono (by omega))); clear hb1)
    go_quiet ((go_at_call 94; exact Calls.quiet_of_same ((HT.out _).mono fun e w' h => ⟨h.1, h.2.symm⟩)))
    go_wp2_with fail
    go_ret2
    exact ⟨ret2_ii (by omega) rfl, below_drewN HB.out _⟩
  · rw [Bool.not_eq_true] at hv
    rw [if_neg (by rw [hv]; decide)]
    rw [hv] at HV
    go_enter Tryz.func95, Tryz.ntmps95
    go_wp2_with (go_at_call 126; refine HV.out.mono ?_; rintro e w1 ⟨rfl, hb1⟩)
    go_ret2
    exact ⟨rfl, HB.out.trans (hb1.mono (by omega))⟩
end Go.Proofs.YtkahakhhdiffcaaGreatDoor
