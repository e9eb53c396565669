/- Contracts of the clock's tests of a date, both ones. -/
import Derived.Test.YtkahakhhdiffcaaGreatDoorCNum2
namespace Go.Proofs.YtkahakhhdiffcaaGreatDoor
set_option linter.unusedVariables false
set_option linter.unusedSimpArgs false
open Go.RowKit

theorem below_drewN {B : Nat} {w w' : World} (h : Below B w w') (n : Nat) : Below B w (w'.drewN n) := h.trans ⟨rfl, rfl, rfl, Nat.le_refl _, fun _ _ => rfl⟩
theorem below_alloc1 (w : World) (o : Obj) : Below w.heap.size w (w.alloc o) := (Below.refl _ w).alloc (Nat.le_refl _) o
theorem cells6_new (w : World) (a b c d e f : Value) (t : Nat) :
    (w.alloc (.cells #[a, b, c, d, e, f] t)).cell? ⟨w.heap.size, 0, none⟩ = some a ∧ (w.alloc (.cells #[a, b, c, d, e, f] t)).cell? ⟨w.heap.size, 1, none⟩ = some b ∧ (w.alloc (.cells #[a, b, c, d, e, f] t)).cell? ⟨w.heap.size, 2, none⟩ = some c ∧
    (w.alloc (.cells #[a, b, c, d, e, f] t)).cell? ⟨w.heap.size, 3, none⟩ = some d ∧ (w.alloc (.cells #[a, b, c, d, e, f] t)).cell? ⟨w.heap.size, 4, none⟩ = some e ∧ (w.alloc (.cells #[a, b, c, d, e, f] t)).cell? ⟨w.heap.size, 5, none⟩ = some f := by
  have hb := heap_alloc_new w (.cells #[a, b, c, d, e, f] t)
  refine ⟨?_, ?_, ?_, ?_, ?_, ?_⟩ <;> (simp only [World.cell?, hb]; rfl)
noncomputable def validB (y m d h mi s : Int) : Bool := decide (1 ≤ y ∧ y ≤ 9999 ∧ 1 ≤ m ∧ m ≤ 12 ∧ 1 ≤ d ∧ d ≤ dim y m ∧ 0 ≤ h ∧ h ≤ 23 ∧ 0 ≤ mi ∧ mi ≤ 59 ∧ 0 ≤ s ∧ s ≤ 59)
theorem validB_eq (y m d h mi s : Int) : validB y m d h mi s = (winI y 1 9999 && winI m 1 12 && winI d 1 (dim y m) && winI h 0 23 && winI mi 0 59 && winI s 0 59) := by
  rw [Bool.eq_iff_iff]
  simp [validB, winI]
  omega

set_option maxRecDepth 100000 in
set_option maxHeartbeats 3200000 in
theorem Valid_any (y m d h mi s : Int) (w : World) :
    Calls Tryz.prog 84 #[.agg #[.int .i64 y, .int .i64 m, .int .i64 d, .int .i64 h, .int .i64 mi, .int .i64 s]] w fun e w' => e = .returned (.bool (validB y m d h mi s)) ∧ Below w.heap.size w w' := by
  obtain ⟨c0, c1, c2, c3, c4, c5⟩ := cells6_new w (.int .i64 y) (.int .i64 m) (.int .i64 d) (.int .i64 h) (.int .i64 mi) (.int .i64 s) 39
  have HB := Lib.hid (below_alloc1 w (.cells #[.int .i64 y, .int .i64 m, .int .i64 d, .int .i64 h, .int .i64 mi, .int .i64 s] 39))
  have HV : Hid (validB y m d h mi s = (winI y 1 9999 && winI m 1 12 && winI d 1 (dim y m) && winI h 0 23 && winI mi 0 59 && winI s 0 59)) := validB_eq y m d h mi s
  have HD : Hid (winI y 1 9999 = true → winI m 1 12 = true → ∀ W, Calls Tryz.prog 49 #[.int .i64 y, .int .i64 m] W fun e w' => e = .returned (.int .i64 (dim y m)) ∧ W = w') := by
    intro a b W
    simp [winI] at a b
    exact days_any y m (by omega) (by omega) (by omega) W
  have H1 := Lib.hid (fun W => within_any y 1 9999 W)
  have H2 := Lib.hid (fun W => within_any m 1 12 W)
  have H3 := Lib.hid (fun W => within_any d 1 (dim y m) W)
  have H4 := Lib.hid (fun W => within_any h 0 23 W)
  have H5 := Lib.hid (fun W => within_any mi 0 59 W)
  have H6 := Lib.hid (fun W => within_any s 0 59 W)
  generalize dim y m = L at *
  generalize validB y m d h mi s = V at *
  generalize winI y 1 9999 = b1 at *
  generalize winI m 1 12 = b2 at *
  generalize winI d 1 L = b3 at *
  generalize winI h 0 23 = b4 at *
  generalize winI mi 0 59 = b5 at *
  generalize winI s 0 59 = b6 at *
  by_cases e1 : b1 = true
  · by_cases e2 : b2 = true
    · subst e1 e2
      have HDD := Lib.hid (HD.out rfl rfl)
      clear HD
      by_cases e3 : b3 = true
      · by_cases e4 : b4 = true
        · by_cases e5 : b5 = true
          · subst e3 e4 e5
            cases b6 <;> (go_enter Tryz.func84, Tryz.ntmps84; go_wp2_with fail; go_quiet (first | (go_at_call_of 42 y; exact Calls.quiet_of_same ((H1.out _).mono fun e w' h => ⟨h.1, h.2.symm⟩)) | (go_at_call_of 42 m; exact Calls.quiet_of_same ((H2.out _).mono fun e w' h => ⟨h.1, h.2.symm⟩)) | (go_at_call_of 42 d; exact Calls.quiet_of_same ((H3.out _).mono fun e w' h => ⟨h.1, h.2.symm⟩)) | (go_at_call_of 42 h; exact Calls.quiet_of_same ((H4.out _).mono fun e w' h => ⟨h.1, h.2.symm⟩)) | (go_at_call_of 42 mi; exact Calls.quiet_of_same ((H5.out _).mono fun e w' h => ⟨h.1, h.2.symm⟩)) | (go_at_call_of 42 s; exact Calls.quiet_of_same ((H6.out _).mono fun e w' h => ⟨h.1, h.2.symm⟩)) | (go_at_call 49; exact Calls.quiet_of_same ((HDD.out _).mono fun e w' h => ⟨h.1, h.2.symm⟩))); go_wp2_with fail; go_ret; exact ⟨ret_bool (by rw [HV.out]; simp), below_drewN HB.out _⟩)
          · rw [Bool.not_eq_true] at e5; subst e3 e4 e5; (go_enter Tryz.func84, Tryz.ntmps84; go_wp2_with fail; go_quiet (first | (go_at_call_of 42 y; exact Calls.quiet_of_same ((H1.out _).mono fun e w' h => ⟨h.1, h.2.symm⟩)) | (go_at_call_of 42 m; exact Calls.quiet_of_same ((H2.out _).mono fun e w' h => ⟨h.1, h.2.symm⟩)) | (go_at_call_of 42 d; exact Calls.quiet_of_same ((H3.out _).mono fun e w' h => ⟨h.1, h.2.symm⟩)) | (go_at_call_of 42 h; exact Calls.quiet_of_same ((H4.out _).mono fun e w' h => ⟨h.1, h.2.symm⟩)) | (go_at_call_of 42 mi; exact Calls.quiet_of_same ((H5.out _).mono fun e w' h => ⟨h.1, h.2.symm⟩)) | (go_at_call_of 42 s; exact Calls.quiet_of_same ((H6.out _).mono fun e w' h => ⟨h.1, h.2.symm⟩)) | (go_at_call 49; exact Calls.quiet_of_same ((HDD.out _).mono fun e w' h => ⟨h.1, h.2.symm⟩))); go_wp2_with fail; go_ret; exact ⟨ret_bool (by rw [HV.out]; simp), below_drewN HB.out _⟩)
        · rw [Bool.not_eq_true] at e4; subst e3 e4; (go_enter Tryz.func84, Tryz.ntmps84; go_wp2_with fail; go_quiet (first | (go_at_call_of 42 y; exact Calls.quiet_of_same ((H1.out _).mono fun e w' h => ⟨h.1, h.2.symm⟩)) | (go_at_call_of 42 m; exact Calls.quiet_of_same ((H2.out _).mono fun e w' h => ⟨h.1, h.2.symm⟩)) | (go_at_call_of 42 d; exact Calls.quiet_of_same ((H3.out _).mono fun e w' h => ⟨h.1, h.2.symm⟩)) | (go_at_call_of 42 h; exact Calls.quiet_of_same ((H4.out _).mono fun e w' h => ⟨h.1, h.2.symm⟩)) | (go_at_call_of 42 mi; exact Calls.quiet_of_same ((H5.out _).mono fun e w' h => ⟨h.1, h.2.symm⟩)) | (go_at_call_of 42 s; exact Calls.quiet_of_same ((H6.out _).mono fun e w' h => ⟨h.1, h.2.symm⟩)) | (go_at_call 49; exact Calls.quiet_of_same ((HDD.out _).mono fun e w' h => ⟨h.1, h.2.symm⟩))); go_wp2_with fail; go_ret; exact ⟨ret_bool (by rw [HV.out]; simp), below_drewN HB.out _⟩)
      · rw [Bool.not_eq_true] at e3; subst e3; (go_enter Tryz.func84, Tryz.ntmps84; go_wp2_with fail; go_quiet (first | (go_at_call_of 42 y; exact Calls.quiet_of_same ((H1.out _).mono fun e w' h => ⟨h.1, h.2.symm⟩)) | (go_at_call_of 42 m; exact Calls.quiet_of_same ((H2.out _).mono fun e w' h => ⟨h.1, h.2.symm⟩)) | (go_at_call_of 42 d; exact Calls.quiet_of_same ((H3.out _).mono fun e w' h => ⟨h.1, h.2.symm⟩)) | (go_at_call_of 42 h; exact Calls.quiet_of_same ((H4.out _).mono fun e w' h => ⟨h.1, h.2.symm⟩)) | (go_at_call_of 42 mi; exact Calls.quiet_of_same ((H5.out _).mono fun e w' h => ⟨h.1, h.2.symm⟩)) | (go_at_call_of 42 s; exact Calls.quiet_of_same ((H6.out _).mono fun e w' h => ⟨h.1, h.2.symm⟩)) | (go_at_call 49; exact Calls.quiet_of_same ((HDD.out _).mono fun e w' h => ⟨h.1, h.2.symm⟩))); go_wp2_with fail; go_ret; exact ⟨ret_bool (by rw [HV.out]; simp), below_drewN HB.out _⟩)
    · rw [Bool.not_eq_true] at e2; subst e1 e2; have HDD := HB; clear HD; (go_enter Tryz.func84, Tryz.ntmps84; go_wp2_with fail; go_quiet (first | (go_at_call_of 42 y; exact Calls.quiet_of_same ((H1.out _).mono fun e w' h => ⟨h.1, h.2.symm⟩)) | (go_at_call_of 42 m; exact Calls.quiet_of_same ((H2.out _).mono fun e w' h => ⟨h.1, h.2.symm⟩)) | (go_at_call_of 42 d; exact Calls.quiet_of_same ((H3.out _).mono fun e w' h => ⟨h.1, h.2.symm⟩)) | (go_at_call_of 42 h; exact Calls.quiet_of_same ((H4.out _).mono fun e w' h => ⟨h.1, h.2.symm⟩)) | (go_at_call_of 42 mi; exact Calls.quiet_of_same ((H5.out _).mono fun e w' h => ⟨h.1, h.2.symm⟩)) | (go_at_call_of 42 s; exact Calls.quiet_of_same ((H6.out _).mono fun e w' h => ⟨h.1, h.2.symm⟩)) | (go_at_call 49; exact Calls.quiet_of_same ((HDD.out _).mono fun e w' h => ⟨h.1, h.2.symm⟩))); go_wp2_with fail; go_ret; exact ⟨ret_bool (by rw [HV.out]; simp), below_drewN HB.out _⟩)
  · rw [Bool.not_eq_true] at e1; subst e1; have HDD := HB; clear HD; (go_enter Tryz.func84, Tryz.ntmps84; go_wp2_with fail; go_quiet (first | (go_at_call_of 42 y; exact Calls.quiet_of_same ((H1.out _).mono fun e w' h => ⟨h.1, h.2.symm⟩)) | (go_at_call_of 42 m; exact Calls.quiet_of_same ((H2.out _).mono fun e w' h => ⟨h.1, h.2.symm⟩)) | (go_at_call_of 42 d; exact Calls.quiet_of_same ((H3.out _).mono fun e w' h => ⟨h.1, h.2.symm⟩)) | (go_at_call_of 42 h; exact Calls.quiet_of_same ((H4.out _).mono fun e w' h => ⟨h.1, h.2.symm⟩)) | (go_at_call_of 42 mi; exact Calls.quiet_of_same ((H5.out _).mono fun e w' h => ⟨h.1, h.2.symm⟩)) | (go_at_call_of 42 s; exact Calls.quiet_of_same ((H6.out _).mono fun e w' h => ⟨h.1, h.2.symm⟩)) | (go_at_call 49; exact Calls.quiet_of_same ((HDD.out _).mono fun e w' h => ⟨h.1, h.2.symm⟩))); go_wp2_with fail; go_ret; exact ⟨ret_bool (by rw [HV.out]; simp), below_drewN HB.out _⟩)

set_option maxRecDepth 100000 in
set_option maxHeartbeats 3200000 in
theorem rValid_any (y m d h mi s : Int) (w : World) :
    Calls Tryz.prog 126 #[.agg #[.int .i64 y, .int .i64 m, .int .i64 d, .int .i64 h, .int .i64 mi, .int .i64 s]] w fun e w' => e = .returned (.bool (validB y m d h mi s)) ∧ Below w.heap.size w w' := by
  obtain ⟨c0, c1, c2, c3, c4, c5⟩ := cells6_new w (.int .i64 y) (.int .i64 m) (.int .i64 d) (.int .i64 h) (.int .i64 mi) (.int .i64 s) 39
  have HB := Lib.hid (below_alloc1 w (.cells #[.int .i64 y, .int .i64 m, .int .i64 d, .int .i64 h, .int .i64 mi, .int .i64 s] 39))
  have HV : Hid (validB y m d h mi s = (winI y 1 9999 && winI m 1 12 && winI d 1 (dim y m) && winI h 0 23 && winI mi 0 59 && winI s 0 59)) := validB_eq y m d h mi s
  have HD : Hid (winI y 1 9999 = true → winI m 1 12 = true → ∀ W, Calls Tryz.prog 27 #[.int .i64 y, .int .i64 m] W fun e w' => e = .returned (.int .i64 (dim y m)) ∧ W = w') := by
    intro a b W
    simp [winI] at a b
    exact rlength_any y m (by omega) W
  have H1 := Lib.hid (fun W => rin_any y 1 9999 W)
  have H2 := Lib.hid (fun W => rin_any m 1 12 W)
  have H3 := Lib.hid (fun W => rin_any d 1 (dim y m) W)
  have H4 := Lib.hid (fun W => rin_any h 0 23 W)
  have H5 := Lib.hid (fun W => rin_any mi 0 59 W)
  have H6 := Lib.hid (fun W => rin_any s 0 59 W)
  generalize dim y m = L at *
  generalize validB y m d h mi s = V at *
  generalize winI y 1 9999 = b1 at *
  generalize winI m 1 12 = b2 at *
  generalize winI d 1 L = b3 at *
  generalize winI h 0 23 = b4 at *
  generalize winI mi 0 59 = b5 at *
  generalize winI s 0 59 = b6 at *
  by_cases e1 : b1 = true
  · by_cases e2 : b2 = true
    · subst e1 e2
      have HDD := Lib.hid (HD.out rfl rfl)
      clear HD
      by_cases e3 : b3 = true
      · by_cases e4 : b4 = true
        · by_cases e5 : b5 = true
          · subst e3 e4 e5
            cases b6 <;> (go_enter Tryz.func126, Tryz.ntmps126; go_wp2_with fail; go_quiet (first | (go_at_call_of 50 y; exact Calls.quiet_of_same ((H1.out _).mono fun e w' h => ⟨h.1, h.2.symm⟩)) | (go_at_call_of 50 m; exact Calls.quiet_of_same ((H2.out _).mono fun e w' h => ⟨h.1, h.2.symm⟩)) | (go_at_call_of 50 d; exact Calls.quiet_of_same ((H3.out _).mono fun e w' h => ⟨h.1, h.2.symm⟩)) | (go_at_call_of 50 h; exact Calls.quiet_of_same ((H4.out _).mono fun e w' h => ⟨h.1, h.2.symm⟩)) | (go_at_call_of 50 mi; exact Calls.quiet_of_same ((H5.out _).mono fun e w' h => ⟨h.1, h.2.symm⟩)) | (go_at_call_of 50 s; exact Calls.quiet_of_same ((H6.out _).mono fun e w' h => ⟨h.1, h.2.symm⟩)) | (go_at_call 27; exact Calls.quiet_of_same ((HDD.out _).mono fun e w' h => ⟨h.1, h.2.symm⟩))); go_wp2_with fail; go_ret; exact ⟨ret_bool (by rw [HV.out]; simp), below_drewN HB.out _⟩)
          · rw [Bool.not_eq_true] at e5; subst e3 e4 e5; (go_enter Tryz.func126, Tryz.ntmps126; go_wp2_with fail; go_quiet (first | (go_at_call_of 50 y; exact Calls.quiet_of_same ((H1.out _).mono fun e w' h => ⟨h.1, h.2.symm⟩)) | (go_at_call_of 50 m; exact Calls.quiet_of_same ((H2.out _).mono fun e w' h => ⟨h.1, h.2.symm⟩)) | (go_at_call_of 50 d; exact Calls.quiet_of_same ((H3.out _).mono fun e w' h => ⟨h.1, h.2.symm⟩)) | (go_at_call_of 50 h; exact Calls.quiet_of_same ((H4.out _).mono fun e w' h => ⟨h.1, h.2.symm⟩)) | (go_at_call_of 50 mi; exact Calls.quiet_of_same ((H5.out _).mono fun e w' h => ⟨h.1, h.2.symm⟩)) | (go_at_call_of 50 s; exact Calls.quiet_of_same ((H6.out _).mono fun e w' h => ⟨h.1, h.2.symm⟩)) | (go_at_call 27; exact Calls.quiet_of_same ((HDD.out _).mono fun e w' h => ⟨h.1, h.2.symm⟩))); go_wp2_with fail; go_ret; exact ⟨ret_bool (by rw [HV.out]; simp), below_drewN HB.out _⟩)
        · rw [Bool.not_eq_true] at e4; subst e3 e4; (go_enter Tryz.func126, Tryz.ntmps126; go_wp2_with fail; go_quiet (first | (go_at_call_of 50 y; exact Calls.quiet_of_same ((H1.out _).mono fun e w' h => ⟨h.1, h.2.symm⟩)) | (go_at_call_of 50 m; exact Calls.quiet_of_same ((H2.out _).mono fun e w' h => ⟨h.1, h.2.symm⟩)) | (go_at_call_of 50 d; exact Calls.quiet_of_same ((H3.out _).mono fun e w' h => ⟨h.1, h.2.symm⟩)) | (go_at_call_of 50 h; exact Calls.quiet_of_same ((H4.out _).mono fun e w' h => ⟨h.1, h.2.symm⟩)) | (go_at_call_of 50 mi; exact Calls.quiet_of_same ((H5.out _).mono fun e w' h => ⟨h.1, h.2.symm⟩)) | (go_at_call_of 50 s; exact Calls.quiet_of_same ((H6.out _).mono fun e w' h => ⟨h.1, h.2.symm⟩)) | (go_at_call 27; exact Calls.quiet_of_same ((HDD.out _).mono fun e w' h => ⟨h.1, h.2.symm⟩))); go_wp2_with fail; go_ret; exact ⟨ret_bool (by rw [HV.out]; simp), below_drewN HB.out _⟩)
      · rw [Bool.not_eq_true] at e3; subst e3; (go_enter Tryz.func126, Tryz.ntmps126; go_wp2_with fail; go_quiet (first | (go_at_call_of 50 y; exact Calls.quiet_of_same ((H1.out _).mono fun e w' h => ⟨h.1, h.2.symm⟩)) | (go_at_call_of 50 m; exact Calls.quiet_of_same ((H2.out _).mono fun e w' h => ⟨h.1, h.2.symm⟩)) | (go_at_call_of 50 d; exact Calls.quiet_of_same ((H3.out _).mono fun e w' h => ⟨h.1, h.2.symm⟩)) | (go_at_call_of 50 h; exact Calls.quiet_of_same ((H4.out _).mono fun e w' h => ⟨h.1, h.2.symm⟩)) | (go_at_call_of 50 mi; exact Calls.quiet_of_same ((H5.out _).mono fun e w' h => ⟨h.1, h.2.symm⟩)) | (go_at_call_of 50 s; exact Calls.quiet_of_same ((H6.out _).mono fun e w' h => ⟨h.1, h.2.symm⟩)) | (go_at_call 27; exact Calls.quiet_of_same ((HDD.out _).mono fun e w' h => ⟨h.1, h.2.symm⟩))); go_wp2_with fail; go_ret; exact ⟨ret_bool (by rw [HV.out]; simp), below_drewN HB.out _⟩)
    · rw [Bool.not_eq_true] at e2; subst e1 e2; have HDD := HB; clear HD; (go_enter Tryz.func126, Tryz.ntmps126; go_wp2_with fail; go_quiet (first | (go_at_call_of 50 y; exact Calls.quiet_of_same ((H1.out _).mono fun e w' h => ⟨h.1, h.2.symm⟩)) | (go_at_call_of 50 m; exact Calls.quiet_of_same ((H2.out _).mono fun e w' h => ⟨h.1, h.2.symm⟩)) | (go_at_call_of 50 d; exact Calls.quiet_of_same ((H3.out _).mono fun e w' h => ⟨h.1, h.2.symm⟩)) | (go_at_call_of 50 h; exact Calls.quiet_of_same ((H4.out _).mono fun e w' h => ⟨h.1, h.2.symm⟩)) | (go_at_call_of 50 mi; exact Calls.quiet_of_same ((H5.out _).mono fun e w' h => ⟨h.1, h.2.symm⟩)) | (go_at_call_of 50 s; exact Calls.quiet_of_same ((H6.out _).mono fun e w' h => ⟨h.1, h.2.symm⟩)) | (go_at_call 27; exact Calls.quiet_of_same ((HDD.out _).mono fun e w' h => ⟨h.1, h.2.symm⟩))); go_wp2_with fail; go_ret; exact ⟨ret_bool (by rw [HV.out]; simp), below_drewN HB.out _⟩)
  · rw [Bool.not_eq_true] at e1; subst e1; have HDD := HB; clear HD; (go_enter Tryz.func126, Tryz.ntmps126; go_wp2_with fail; go_quiet (first | (go_at_call_of 50 y; exact Calls.quiet_of_same ((H1.out _).mono fun e w' h => ⟨h.1, h.2.symm⟩)) | (go_at_call_of 50 m; exact Calls.quiet_of_same ((H2.out _).mono fun e w' h => ⟨h.1, h.2.symm⟩)) | (go_at_call_of 50 d; exact Calls.quiet_of_same ((H3.out _).mono fun e w' h => ⟨h.1, h.2.symm⟩)) | (go_at_call_of 50 h; exact Calls.quiet_of_same ((H4.out _).mono fun e w' h => ⟨h.1, h.2.symm⟩)) | (go_at_call_of 50 mi; exact Calls.quiet_of_same ((H5.out _).mono fun e w' h => ⟨h.1, h.2.symm⟩)) | (go_at_call_of 50 s; exact Calls.quiet_of_same ((H6.out _).mono fun e w' h => ⟨h.1, h.2.symm⟩)) | (go_at_call 27; exact Calls.quiet_of_same ((HDD.out _).mono fun e w' h => ⟨h.1, h.2.symm⟩))); go_wp2_with fail; go_ret; exact ⟨ret_bool (by rw [HV.out]; simp), below_drewN HB.out _⟩)
end Go.Proofs.YtkahakhhdiffcaaGreatDoor
