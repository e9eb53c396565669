/- 'ClockUnits' returns true: the walk. -/
import Derived.Test.YtmidphmniikdpaaDoorCAdd5
import Derived.Test.YtmidphmniikdpaaDoorCRBet
import Derived.Test.YtmidphmniikdpaaDoorCRSta
import Derived.Test.YtmidphmniikdpaaDoorCSta7
import Derived.Test.YtmidphmniikdpaaDoorCDatesW
import Derived.Deep.RegionWith
namespace Go.Proofs.YtmidphmniikdpaaDoor.clockUnits
set_option linter.unusedVariables false
set_option linter.unusedSimpArgs false
open Go.RowKit
set_option maxRecDepth 100000 in
set_option maxHeartbeats 6400000 in
theorem walk (t tt n : Int) (s : Bs) (hs : s.length ≤ maxLen) (w : World) (hT : SpaceIs w) (hP : PowIs w) :
    Calls Tryd.prog 8 #[.int .i64 t, .int .i64 tt, .int .i64 n, .string ⟨s.toArray⟩] w fun e w' => e = .returned (.bool true) ∧ Below w.heap.size w w' := by
  have HT := Lib.hid hT
  have HP := Lib.hid hP
  have HB := Lib.hid (Below.refl w.heap.size w)
  clear hT hP
  by_cases hl : 40 < s.length
  · go_enter Tryd.func8, Tryd.ntmps8
    go_wp2_with (go_at_call 9; refine (awake_any _ ?_ ?_).mono ?_; exact HT.out.below HB.out; exact HP.out.below HB.out; rintro e w8 ⟨rfl, hb⟩; replace HB := Lib.hid (HB.out.trans (hb.mono HB.out.size)); clear hb)
    go_ret
    exact ⟨rfl, HB.out⟩
  have A1 := Lib.hid (fun W => Add_any t n s W)
  have A2 := Lib.hid (fun W => addR_all t n s W)
  generalize addR t n s = p at *
  obtain ⟨a, e⟩ := p
  have B1 := Lib.hid (fun W => Between_any t tt s W)
  have B2 := Lib.hid (fun W => rBetween_any t tt s W)
  generalize betR t tt s = p at *
  obtain ⟨c, g⟩ := p
  have S1 := Lib.hid (fun W => Start_any t s W)
  have S2 := Lib.hid (fun W => rStart_any t s W)
  have hl2 : s.length ≤ 40 := by omega
  by_cases hv : validI t = true
  · cases hu : unitC s with
    | some u =>
      have hu6 := unitC_le hu
      have hR : startR t s = (startC t u, 0) := by unfold startR; rw [if_pos hv, hu]
      rw [hR] at S1 S2
      have hvx := start_valid hv hu6
      have S3 := Lib.hid (fun W => Start_any (startC t u) s W)
      rw [show startR (startC t u) s = (startC t u, 0) by unfold startR; rw [if_pos hvx, hu]; simp only [start_start hv hu6]] at S3
      have B3 := Lib.hid (fun W => Between_any (startC t u) t s W)
      have hle := (start_le hv hu6).1
      rw [show betR (startC t u) t s = (0, 0) by unfold betR; rw [if_pos ⟨hvx, hv⟩, hu]; simp only; rw [if_pos hle, start_bet hv hu6]] at B3
      clear hR hvx hu hv hl
      generalize startC t u = x at *
      go_enter Tryd.func8, Tryd.ntmps8
      go_wp2_with (first
      | (go_at_call 32; refine (A1.out _).mono ?_; rintro e w1 ⟨rfl, hb⟩; replace HB := Lib.hid (HB.out.trans (hb.mono HB.out.size)); clear hb)
      | (go_at_call 34; refine (A2.out _).mono ?_; rintro e w1 ⟨rfl, hb⟩; replace HB := Lib.hid (HB.out.trans (hb.mono HB.out.size)); clear hb)
      | (go_at_call_of 33 (Value.int .i64 tt); refine (B1.out _).mono ?_; rintro e w1 ⟨rfl, hb⟩; replace HB := Lib.hid (HB.out.trans (hb.mono HB.out.size)); clear hb)
      | (go_at_call 35; refine (B2.out _).mono ?_; rintro e w1 ⟨rfl, hb⟩; replace HB := Lib.hid (HB.out.trans (hb.mono HB.out.size)); clear hb)
      | (go_at_call_of 36 (Value.int .i64 x); refine (S3.out _).mono ?_; rintro e w1 ⟨rfl, hb⟩; replace HB := Lib.hid (HB.out.trans (hb.mono HB.out.size)); clear hb)
      | (go_at_call_of 36 (Value.int .i64 t); refine (S1.out _).mono ?_; rintro e w1 ⟨rfl, hb⟩; replace HB := Lib.hid (HB.out.trans (hb.mono HB.out.size)); clear hb)
      | (go_at_call_of 33 (Value.int .i64 x); refine (B3.out _).mono ?_; rintro e w1 ⟨rfl, hb⟩; replace HB := Lib.hid (HB.out.trans (hb.mono HB.out.size)); clear hb)
      | (go_at_call 37; refine (S2.out _).mono ?_; rintro e w1 ⟨rfl, hb⟩; replace HB := Lib.hid (HB.out.trans (hb.mono HB.out.size)); clear hb)
      | (go_at_call 9; refine (awake_any _ ?_ ?_).mono ?_; exact HT.out.below HB.out; exact HP.out.below HB.out; rintro e w8 ⟨rfl, hb⟩; replace HB := Lib.hid (HB.out.trans (hb.mono HB.out.size)); clear hb))
      go_ret
      exact ⟨rfl, HB.out⟩
    | none =>
      have hR : startR t s = (0, 5) := by unfold startR; rw [if_pos hv, hu]
      rw [hR] at S1 S2
      clear hR hu hv hl
      go_enter Tryd.func8, Tryd.ntmps8
      go_wp2_with (first
      | (go_at_call 32; refine (A1.out _).mono ?_; rintro e w1 ⟨rfl, hb⟩; replace HB := Lib.hid (HB.out.trans (hb.mono HB.out.size)); clear hb)
      | (go_at_call 34; refine (A2.out _).mono ?_; rintro e w1 ⟨rfl, hb⟩; replace HB := Lib.hid (HB.out.trans (hb.mono HB.out.size)); clear hb)
      | (go_at_call_of 33 (Value.int .i64 tt); refine (B1.out _).mono ?_; rintro e w1 ⟨rfl, hb⟩; replace HB := Lib.hid (HB.out.trans (hb.mono HB.out.size)); clear hb)
      | (go_at_call 35; refine (B2.out _).mono ?_; rintro e w1 ⟨rfl, hb⟩; replace HB := Lib.hid (HB.out.trans (hb.mono HB.out.size)); clear hb)
      | (go_at_call_of 36 (Value.int .i64 t); refine (S1.out _).mono ?_; rintro e w1 ⟨rfl, hb⟩; replace HB := Lib.hid (HB.out.trans (hb.mono HB.out.size)); clear hb)
      | (go_at_call 37; refine (S2.out _).mono ?_; rintro e w1 ⟨rfl, hb⟩; replace HB := Lib.hid (HB.out.trans (hb.mono HB.out.size)); clear hb)
      | (go_at_call 9; refine (awake_any _ ?_ ?_).mono ?_; exact HT.out.below HB.out; exact HP.out.below HB.out; rintro e w8 ⟨rfl, hb⟩; replace HB := Lib.hid (HB.out.trans (hb.mono HB.out.size)); clear hb))
      go_ret
      exact ⟨rfl, HB.out⟩
  · have hR : startR t s = (0, 7) := by unfold startR; rw [if_neg hv]
    rw [hR] at S1 S2
    clear hR hv hl
    go_enter Tryd.func8, Tryd.ntmps8
    go_wp2_with (first
      | (go_at_call 32; refine (A1.out _).mono ?_; rintro e w1 ⟨rfl, hb⟩; replace HB := Lib.hid (HB.out.trans (hb.mono HB.out.size)); clear hb)
      | (go_at_call 34; refine (A2.out _).mono ?_; rintro e w1 ⟨rfl, hb⟩; replace HB := Lib.hid (HB.out.trans (hb.mono HB.out.size)); clear hb)
      | (go_at_call_of 33 (Value.int .i64 tt); refine (B1.out _).mono ?_; rintro e w1 ⟨rfl, hb⟩; replace HB := Lib.hid (HB.out.trans (hb.mono HB.out.size)); clear hb)
      | (go_at_call 35; refine (B2.out _).mono ?_; rintro e w1 ⟨rfl, hb⟩; replace HB := Lib.hid (HB.out.trans (hb.mono HB.out.size)); clear hb)
      | (go_at_call_of 36 (Value.int .i64 t); refine (S1.out _).mono ?_; rintro e w1 ⟨rfl, hb⟩; replace HB := Lib.hid (HB.out.trans (hb.mono HB.out.size)); clear hb)
      | (go_at_call 37; refine (S2.out _).mono ?_; rintro e w1 ⟨rfl, hb⟩; replace HB := Lib.hid (HB.out.trans (hb.mono HB.out.size)); clear hb)
      | (go_at_call 9; refine (awake_any _ ?_ ?_).mono ?_; exact HT.out.below HB.out; exact HP.out.below HB.out; rintro e w8 ⟨rfl, hb⟩; replace HB := Lib.hid (HB.out.trans (hb.mono HB.out.size)); clear hb))
    go_ret
    exact ⟨rfl, HB.out⟩
end Go.Proofs.YtmidphmniikdpaaDoor.clockUnits
