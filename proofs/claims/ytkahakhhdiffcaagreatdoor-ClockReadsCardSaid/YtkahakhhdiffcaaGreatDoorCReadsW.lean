/- The walk of ClockReads. -/
import Derived.Test.YtkahakhhdiffcaaGreatDoorCRdF
import Derived.Test.YtkahakhhdiffcaaGreatDoorCRdK
import Derived.Test.YtkahakhhdiffcaaGreatDoorCAwake
namespace Go.Proofs.YtkahakhhdiffcaaGreatDoor
set_option linter.unusedVariables false
set_option linter.unusedSimpArgs false
open Go.RowKit Go.Shelf
set_option maxRecDepth 100000 in
set_option maxHeartbeats 1600000 in
theorem clockReads_any (s form : Bs) (w : World) (hT : SpaceIs w) (hP : PowIs w) (hE : ErrIs w) :
    Calls Tryz.prog 5 #[.string ⟨s.toArray⟩, .string ⟨form.toArray⟩] w fun e w' => e = .returned (.bool true) ∧ Below w.heap.size w w' := by
  have AW := Lib.hid (fun W (hB : Below w.heap.size w W) => awake_any W (hT.below hB) (hP.low hB))
  by_cases hl : 200 < s.length
  · have t1 : decide (200 < (s.length : Int)) = true := by rw [decide_eq_true_eq]; omega
    go_enter Tryz.func5, Tryz.ntmps5
    go_wp2_with (go_at_call 6; refine (AW.out _ (Below.refl _ _)).mono ?_; rintro e w1 ⟨rfl, hB⟩; have H1 := Lib.hid hB; clear hB)
    go_ret
    exact ⟨rfl, H1.out⟩
  · have t1 : decide (200 < (s.length : Int)) = false := by rw [decide_eq_false_iff_not]; omega
    by_cases hl2 : 200 < form.length
    · have t2 : decide (200 < (form.length : Int)) = true := by rw [decide_eq_true_eq]; omega
      go_enter Tryz.func5, Tryz.ntmps5
      go_wp2_with (go_at_call 6; refine (AW.out _ (Below.refl _ _)).mono ?_; rintro e w1 ⟨rfl, hB⟩; have H1 := Lib.hid hB; clear hB)
      go_ret
      exact ⟨rfl, H1.out⟩
    · have t2 : decide (200 < (form.length : Int)) = false := by rw [decide_eq_false_iff_not]; omega
      have RD := Lib.hid (Read_any s form (by omega) (by omega) w hT hE)
      have RR := Lib.hid (fun W (hB : Below w.heap.size w W) => rRead_any s form (by omega) (by omega) W (hP.low hB) (hE.below hB))
      simp only [reads_law] at RR
      obtain ⟨a, ha⟩ : ∃ a, (rdP s form).1 = a := ⟨_, rfl⟩
      obtain ⟨e0, he⟩ : ∃ e0, (rdP s form).2 = e0 := ⟨_, rfl⟩
      rw [ha, he] at RD
      simp only [ha, he] at RR
      clear ha he hT hP hE hl hl2
      go_enter Tryz.func5, Tryz.ntmps5
      go_wp2_with (first | (go_at_call 13; refine RD.out.mono ?_; rintro e w1 ⟨rfl, hB⟩; have H1 := Lib.hid hB; clear hB) | (go_at_call 14; refine (RR.out _ H1.out).mono ?_; rintro e w2 ⟨rfl, hB⟩; have H2 := Lib.hid (H1.out.trans (hB.mono H1.out.size)); clear hB) | (go_at_call 6; refine (AW.out _ H2.out).mono ?_; rintro e w3 ⟨rfl, hB⟩; have H3 := Lib.hid (H2.out.trans (hB.mono H2.out.size)); clear hB))
      go_ret
      exact ⟨rfl, H3.out⟩
end Go.Proofs.YtkahakhhdiffcaaGreatDoor
