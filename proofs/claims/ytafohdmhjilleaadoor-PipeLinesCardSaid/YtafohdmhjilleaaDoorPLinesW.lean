/- PipeLines: the walk. Printed by mkPL.py. -/
import Derived.Test.YtafohdmhjilleaaDoorPLineP
namespace Go.Proofs.YtafohdmhjilleaaDoor
set_option linter.unusedVariables false
set_option linter.unusedSimpArgs false
open Go.RowKit Go.Shelf
attribute [local go_sem] ba_append

/-- What holds at the loop's head. -/
def LineR (w : World) (b1 b2 : Nat) (mode raw : Bs) (v7 v52 : Value) (wr : World) : Prop := ∃ (i : Nat) (s : Bs) (p q : PP) (k : Nat), i ≤ k ∧ v52 = .int .i64 (i : Int) ∧ v7 = .string ⟨s.toArray⟩ ∧ At2 w b1 p b2 q wr ∧ Rk mode raw p s k ∧ Rd mode raw q []

set_option maxRecDepth 100000 in
set_option maxHeartbeats 1600000 in
theorem lines_no (raw mode : Bs) (w : World) (hM : MaxIs w) (hm : ¬ isInM mode = true) :
    Calls Tryd.prog 7 #[.string ⟨raw.toArray⟩, .string ⟨mode.toArray⟩] w fun e w' => e = .returned (.bool true) ∧ Below w.heap.size w w' := by
  have MM : Hid (∀ W, Calls Tryd.prog 16 #[.string ⟨mode.toArray⟩, .string ⟨#[108, 102]⟩, .int .i64 10] W fun e w' => e = .returned (.pointer none) ∧ W = w') := fun W => made_no mode lfM (fun h => hm h.1) W
  have HW := Lib.hid (awake_any w hM)
  clear hm hM
  go_enter Tryd.func7, Tryd.ntmps7
  go_wp2_with (first | (go_at_call 16; refine (MM.out _).mono ?_; rintro e w1 ⟨rfl, rfl⟩) | (go_at_call 10; refine HW.out.mono ?_; rintro e w7 ⟨rfl, hb⟩))
  go_ret
  exact ⟨rfl, hb⟩
set_option maxRecDepth 100000 in
set_option maxHeartbeats 1600000 in
theorem lines_long (raw mode : Bs) (w : World) (hM : MaxIs w) (hm : isInM mode = true) (hs : 2000 < raw.length) :
    Calls Tryd.prog 7 #[.string ⟨raw.toArray⟩, .string ⟨mode.toArray⟩] w fun e w' => e = .returned (.bool true) ∧ Below w.heap.size w w' := by
  have MM : Hid (∀ W, MaxIs W → Calls Tryd.prog 16 #[.string ⟨mode.toArray⟩, .string ⟨#[108, 102]⟩, .int .i64 10] W fun e w' => ∃ b, e = .returned (.pointer (some ⟨b, 0, none⟩)) ∧ At1 W b (madeP mode lfM) w') := fun W hW => made_at mode lfM hm rfl W hW
  have hN := fun W b => ptr_nil W b
  have H0 := Lib.hid hM
  clear hm hM
  go_enter Tryd.func7, Tryd.ntmps7
  go_wp2_with (first | (go_at_call 16; refine (MM.out _ H0.out).mono ?_; rintro e w1 ⟨b1, rfl, h1⟩; have H1 := Lib.hid h1; clear h1 H0) | (go_at_call 16; refine (MM.out _ H1.out.max).mono ?_; rintro e w2 ⟨b2, rfl, h2⟩; have HA := Lib.hid (At2.of H1.out h2); clear h2 H1) | (go_at_call 10; refine (awake_any _ HA.out.max).mono ?_; rintro e w7 ⟨rfl, hb7⟩; have HZ := Lib.hid (HA.out.below.trans (hb7.mono HA.out.below.size)); clear hb7))
  go_ret
  exact ⟨rfl, HZ.out⟩
set_option maxRecDepth 100000 in
set_option maxHeartbeats 3200000 in
theorem lines_yes (raw mode : Bs) (w : World) (hM : MaxIs w) (hm : isInM mode = true) (hs : raw.length ≤ 2000) :
    Calls Tryd.prog 7 #[.string ⟨raw.toArray⟩, .string ⟨mode.toArray⟩] w fun e w' => e = .returned (.bool true) ∧ Below w.heap.size w w' := by
  have MM : Hid (∀ W, MaxIs W → Calls Tryd.prog 16 #[.string ⟨mode.toArray⟩, .string ⟨#[108, 102]⟩, .int .i64 10] W fun e w' => ∃ b, e = .returned (.pointer (some ⟨b, 0, none⟩)) ∧ At1 W b (madeP mode lfM) w') := fun W hW => made_at mode lfM hm rfl W hW
  have hN := fun W b => ptr_nil W b
  have HM := Lib.hid hm
  have H0 := Lib.hid hM
  have HP := Lib.hid (Fd.new mode lfM)
  have HQ := Lib.hid (Fd.new mode lfM)
  clear hm hM
  go_enter Tryd.func7, Tryd.ntmps7
  go_wp2_with (first | (go_at_call 16; refine (MM.out _ H0.out).mono ?_; rintro e w1 ⟨b1, rfl, h1⟩; have H1 := Lib.hid h1; clear h1 H0) | (go_at_call 16; refine (MM.out _ H1.out.max).mono ?_; rintro e w2 ⟨b2, rfl, h2⟩; have HA := Lib.hid (At2.of H1.out h2); clear h2 H1) | (go_at_call_of 17 (Value.pointer (some ⟨b1, 0, none⟩)); refine (feed_1 HA.out HP.out _ (by omega) (by simp)).mono ?_; rintro e w3 ⟨rfl, p3, ha3, hp3⟩; replace HA := Lib.hid ha3; replace HP := Lib.hid hp3; clear ha3 hp3) | (go_at_call_of 17 (Value.pointer (some ⟨b2, 0, none⟩)); refine (feed_2 HA.out HQ.out _ (by omega) (by simp)).mono ?_; rintro e w3 ⟨rfl, q3, ha3, hq3⟩; replace HA := Lib.hid ha3; replace HQ := Lib.hid hq3; clear ha3 hq3) | (go_at_call_of 18 (Value.pointer (some ⟨b1, 0, none⟩)); refine (close_1k HA.out HP.out).mono ?_; rintro e w3 ⟨rfl, p3, ha3, hp3⟩; replace HA := Lib.hid ha3; replace HP := Lib.hid hp3; clear ha3 hp3) | (go_at_call_of 18 (Value.pointer (some ⟨b2, 0, none⟩)); refine (close_2 HA.out HQ.out).mono ?_; rintro e w3 ⟨rfl, q3, ha3, hq3⟩; replace HA := Lib.hid ha3; replace HQ := Lib.hid hq3; clear ha3 hq3))
  rw [List.nil_append] at HP HQ
  go_loopw [7, 52] (fun v7 v52 wr => LineR w b1 b2 mode raw v7 v52 wr) (fun _ v52 _ => raw.length + 2 - (intOf v52).toNat)
  case atStart => exact ⟨0, [], _, _, 0, Nat.le_refl _, rfl, rfl, HA.out, HP.out, HQ.out⟩
  case round =>
    clear HA HP HQ MM
    obtain ⟨i, s, p, q, k, hik, rfl, rfl, hA, hP, hQ⟩ := hrel
    have hkl := hP.kle
    have hsl := hP.short
    have HA := Lib.hid hA
    have HP := Lib.hid hP
    have HQ := Lib.hid hQ
    have hi2 : (i : Int) < (raw.length : Int) + 2 := by omega
    by_cases hk : (stepsL mode true raw).drop k = []
    · obtain ⟨_, _, _, _, rfl⟩ := hP.none hk
      have HK := Lib.hid hk
      clear hk hA hP hQ
      go_wp2_with (first | (go_at_call 26; refine (line_none HA.out HP.out HM.out (by omega) HK.out).mono ?_; rintro e w4 ⟨rfl, p4, ha4, hp4, he4⟩; replace HA := Lib.hid ha4; replace HP := Lib.hid hp4; have HE := Lib.hid he4; clear ha4 hp4 he4) | (go_at_call 27; refine (contains_no (a := []) (by simp) _).mono ?_; rintro e w6 ⟨rfl, rfl⟩) | (go_at_call_of 19 (Value.pointer (some ⟨b2, 0, none⟩)); refine (rest_2 HA.out HQ.out HM.out (by omega)).mono ?_; rintro e w3 ⟨q3, rfl, ha3, _⟩; replace HA := Lib.hid ha3; clear ha3 HQ) | (go_at_call 21; refine (eof_1' HA.out HE.out).mono ?_; rintro e w5 ⟨rfl, rfl⟩) | (go_at_call 10; refine (awake_any _ HA.out.max).mono ?_; rintro e w7 ⟨rfl, hb7⟩; have HZ := Lib.hid (HA.out.below.trans (hb7.mono HA.out.below.size)); clear hb7))
      go_ret
      exact ⟨rfl, HZ.out⟩
    · rcases lineL_spec ((stepsL mode true raw).drop k) with ⟨a, h1, h2⟩ | ⟨h1, h2⟩
      · have H10 := Lib.hid h2
        have HL := Lib.hid h1
        clear hk hA hP hQ h1 h2
        go_wp2_with (first | (go_at_call 26; refine (line_whole HA.out HP.out HM.out (by omega) HL.out H10.out).mono ?_; rintro e w4 ⟨rfl, p4, ha4, he4, k4, hk4, hp4⟩; replace HA := Lib.hid ha4; have HP4 := Lib.hid hp4; have HE := Lib.hid he4; have r1 : ¬ (9223372036854775807 < s.length + a.length) := (by have := hp4.short; simp at this; omega); have r2 : ¬ (9223372036854775807 < (s ++ a).length + 1) := (by have := hp4.short; simp at this ⊢; omega); have r3 : ¬ (9223372036854775807 < s.length + a.length + 1) := (by have := hp4.short; simp at this; omega); have HKK := Lib.hid hk4; clear ha4 hp4 he4 hk4) | (go_at_call 27; refine (contains_no H10.out _).mono ?_; rintro e w6 ⟨rfl, rfl⟩) | (go_at_call 21; refine (eof_1' HA.out HE.out).mono ?_; rintro e w5 ⟨rfl, rfl⟩))
        go_roundw
        case rel => exact ⟨i + 1, s ++ a ++ [10], _, _, _, by have := HKK.out; omega, by go_num, by first | rfl | rw [List.append_assoc], HA.out, HP4.out, HQ.out⟩
        case measure => simp [intOf]; omega
      · obtain ⟨a, ha⟩ : ∃ a, bytesL ((stepsL mode true raw).drop k) = a := ⟨_, rfl⟩
        rw [ha] at h2
        have H10 := Lib.hid h2
        have HL := Lib.hid (And.intro ha (And.intro h1 hk))
        clear hk hA hP hQ h1 h2 ha
        go_wp2_with (first | (go_at_call 26; refine (line_rest HA.out HP.out HM.out (by omega) HL.out.1 HL.out.2.1 H10.out HL.out.2.2).mono ?_; rintro e w4 ⟨rfl, p4, ha4, he4, k4, hk4, hp4⟩; replace HA := Lib.hid ha4; have HP4 := Lib.hid hp4; have HE := Lib.hid he4; have r1 : ¬ (9223372036854775807 < s.length + a.length) := (by have := hp4.short; simp at this; omega); have r2 : ¬ (9223372036854775807 < (s ++ a).length + 1) := (by have := hp4.short; simp at this ⊢; omega); have r3 : ¬ (9223372036854775807 < s.length + a.length + 1) := (by have := hp4.short; simp at this; omega); have HKK := Lib.hid hk4; clear ha4 hp4 he4 hk4) | (go_at_call 27; refine (contains_no H10.out _).mono ?_; rintro e w6 ⟨rfl, rfl⟩) | (go_at_call 21; refine (eof_1' HA.out HE.out).mono ?_; rintro e w5 ⟨rfl, rfl⟩))
        go_roundw
        case rel => exact ⟨i + 1, s ++ a, _, _, _, by have := HKK.out; omega, by go_num, rfl, HA.out, HP4.out, HQ.out⟩
        case measure => simp [intOf]; omega
end Go.Proofs.YtafohdmhjilleaaDoor
