/- Contracts of the reference's units: Add of months and years. -/
import Derived.Test.YtmidphmniikdpaaDoorCRAdd
import Derived.Deep.RegionWith
namespace Go.Proofs.YtmidphmniikdpaaDoor
set_option linter.unusedVariables false
set_option linter.unusedSimpArgs false
open Go.RowKit

set_option maxRecDepth 100000 in
set_option maxHeartbeats 1600000 in
theorem rAdd_mon5 (t n : Int) (hv : validI t = true) (w : World) :
    Calls Tryd.prog 34 #[.int .i64 t, .int .i64 n, .string ⟨List.toArray [109, 111, 110, 116, 104]⟩] w fun e w' => e = .returned (.tuple #[.int .i64 (addC t n 5).1, .int .i64 (addC t n 5).2]) ∧ Below w.heap.size w w' := by
  have h1 := (validI_iff t).1 hv
  have hD := valid_date hv
  have HV := Lib.hid (fun W => rright_any t W)
  rw [hv] at HV
  have HU := Lib.hid (fun W => runit_any [109, 111, 110, 116, 104] W)
  rw [show ruC [109, 111, 110, 116, 104] = (0, true) by decide] at HU
  have HA := Lib.hid (add_mon (t := t) (n := n) (u := 5) (by decide))
  rw [show monU 5 = 1 by decide] at HA
  have HD := Lib.hid (fun W => rdate_any t h1.1 (by omega) W)
  have HT : Hid (∀ k : Int, ((dateC t).shift k).time = (dayNo (((dateC t).ix + k) / 12) (((dateC t).ix + k) % 12 + 1) (min (dateC t).d (dim (((dateC t).ix + k) / 12) (((dateC t).ix + k) % 12 + 1))) - 719162) * 86400 + (dateC t).h * 3600 + (dateC t).mi * 60 + (dateC t).s) := fun k => rfl
  obtain ⟨hok, -, hy9⟩ := hD
  have q1 := hok.date.y1; have q2 := hok.date.m1; have q3 := hok.date.m12; have q4 := hok.date.d1; have q5 := hok.date.dn; have q6 := dim_ge (dateC t).y (dateC t).m
  have q7 := hok.h0; have q8 := hok.h1; have q9 := hok.mi0; have q10 := hok.mi1; have q11 := hok.s0; have q12 := hok.s1
  have q5b : (dateC t).d ≤ 31 := by omega
  have hix : (dateC t).ix = 12 * (dateC t).y + (dateC t).m - 1 := rfl
  generalize addC t n 5 = R at *
  clear hok q5 q6 hv
  generalize dateC t = D at *
  obtain ⟨y, m, d, h, mi, s0⟩ := D
  simp only [DT.v] at *
  obtain ⟨x, hxe⟩ : ∃ x, n * 1 = x := ⟨_, rfl⟩
  rw [hxe] at HA
  rw [hix] at HA HT
  have HW1 := Lib.hid (fun W => rin_any n (-400000000000) 400000000000 W)
  have hw1 : winI n (-400000000000) 400000000000 = decide (-400000000000 ≤ n ∧ n ≤ 400000000000) := by simp [winI]
  by_cases c1 : -400000000000 ≤ n ∧ n ≤ 400000000000
  · rw [hw1, decide_eq_true c1] at HW1
    have hxb : -4800000000000 ≤ x ∧ x ≤ 4800000000000 := by omega
    obtain ⟨q, hq⟩ : ∃ q, 12 * y + m - 1 + x = q := ⟨_, rfl⟩
    have HT1 := Lib.hid (HT.out x)
    rw [hq] at HA HT1
    have hqb : -13000000000000 ≤ q ∧ q ≤ 13000000000000 := by omega
    clear HT hix hw1
    have hnx : x = n := by omega
    subst hnx
    by_cases c2 : 12 ≤ q ∧ q < 120000
    · have HR : Hid (R = (((⟨y, m, d, h, mi, s0⟩ : DT).shift x).time, 0)) := by show _ = _; rw [HA.out, if_pos c2]
      have hqd : q.tdiv 12 = q / 12 := Int.tdiv_eq_ediv_of_nonneg (by omega)
      have hqm : q.tmod 12 = q % 12 := Int.tmod_eq_emod_of_nonneg (by omega)
      have hyb : 1 ≤ q / 12 ∧ q / 12 ≤ 9999 := by omega
      have hmb : 0 ≤ q % 12 ∧ q % 12 ≤ 11 := by omega
      generalize q / 12 = yy at *
      generalize q % 12 = mm at *
      have HDY := Lib.hid (fun W => rlength_any yy (mm + 1) (by omega) W)
      have hdg := dim_ge yy (mm + 1)
      obtain ⟨dn, hdn⟩ : ∃ dn, dim yy (mm + 1) = dn := ⟨_, rfl⟩
      have hmn : 1 ≤ min d dn ∧ min d dn ≤ 31 := by omega
      have hmx : min d dn ≤ dn := Int.min_le_right _ _
      obtain ⟨dd, hdd⟩ : ∃ dd, min d dn = dd := ⟨_, rfl⟩
      have HTM := Lib.hid (fun W => rTime_any yy (mm + 1) dd h mi s0 W)
      have hval : timeC yy (mm + 1) dd h mi s0 = (((⟨y, m, d, h, mi, s0⟩ : DT).shift x).time, 0) := by
        rw [HT1.out, hdn, hdd]
        unfold timeC
        rw [if_pos]
        simp only [validB, decide_eq_true_eq]
        rw [hdn]
        omega
      rw [hval] at HTM
      rw [hdn] at HDY hdg
      rw [hdd] at hmn hmx
      clear HA HT1 hval hdn
      generalize ((⟨y, m, d, h, mi, s0⟩ : DT).shift x).time = T at *
      go_enter Tryd.func34, Tryd.ntmps34
      go_wp2_with (first | (go_at_call 44; refine (HV.out _).mono ?_; rintro e w1 ⟨rfl, rfl⟩) | (go_at_call 68; refine (HU.out _).mono ?_; rintro e w1 ⟨rfl, rfl⟩) | (go_at_call 49; refine (HW1.out _).mono ?_; rintro e w1 ⟨rfl, rfl⟩) | (go_at_call 54; refine (HD.out _).mono ?_; rintro e w1 ⟨rfl, hb1⟩; obtain ⟨c0, c1, c2, c3, c4, c5⟩ := cells6_new w1 (.int .i64 y) (.int .i64 m) (.int .i64 d) (.int .i64 h) (.int .i64 mi) (.int .i64 s0) 30; have HB := Lib.hid (hb1.alloc hb1.size (.cells #[.int .i64 y, .int .i64 m, .int .i64 d, .int .i64 h, .int .i64 mi, .int .i64 s0] 30))))
      go_region_with (go_at_call 59; refine (HDY.out _).mono ?_; rintro e w2 ⟨rfl, rfl⟩)
      all_goals (go_wp2_with (go_at_call 18; refine (HTM.out _).mono ?_; rintro e w3 ⟨rfl, hb3⟩); go_ret2; have HBF := below_drewN (hb1.alloc hb1.size (.cells #[.int .i64 yy, .int .i64 (mm + 1), .int .i64 dd, .int .i64 h, .int .i64 mi, .int .i64 s0] 30)) 1; exact ⟨by rw [HR.out]; first | done | rfl, HBF.trans (hb3.mono HBF.size)⟩)
    · have HR : Hid (R = (0, 7)) := by show _ = _; rw [HA.out, if_neg c2]
      clear HA HT1
      have hsplit : q < 12 ∨ (12 ≤ q ∧ 120000 ≤ q) := by omega
      clear c2
      rcases hsplit with hs1 | ⟨hs1, hs2⟩
      all_goals
        go_enter Tryd.func34, Tryd.ntmps34
        go_wp2_with (first | (go_at_call 44; refine (HV.out _).mono ?_; rintro e w1 ⟨rfl, rfl⟩) | (go_at_call 68; refine (HU.out _).mono ?_; rintro e w1 ⟨rfl, rfl⟩) | (go_at_call 49; refine (HW1.out _).mono ?_; rintro e w1 ⟨rfl, rfl⟩) | (go_at_call 54; refine (HD.out _).mono ?_; rintro e w1 ⟨rfl, hb1⟩; obtain ⟨c0, c1, c2, c3, c4, c5⟩ := cells6_new w1 (.int .i64 y) (.int .i64 m) (.int .i64 d) (.int .i64 h) (.int .i64 mi) (.int .i64 s0) 30; have HB := Lib.hid (hb1.alloc hb1.size (.cells #[.int .i64 y, .int .i64 m, .int .i64 d, .int .i64 h, .int .i64 mi, .int .i64 s0] 30))))
        go_ret2
        exact ⟨by rw [HR.out]; first | done | rfl, HB.out⟩
  · rw [hw1, decide_eq_false c1] at HW1
    have HR : Hid (R = (0, 7)) := by show _ = _; rw [HA.out, if_neg (by omega)]
    clear hw1 HA HT c1
    go_enter Tryd.func34, Tryd.ntmps34
    go_wp2_with (first | (go_at_call 44; refine (HV.out _).mono ?_; rintro e w1 ⟨rfl, rfl⟩) | (go_at_call 68; refine (HU.out _).mono ?_; rintro e w1 ⟨rfl, rfl⟩) | (go_at_call 49; refine (HW1.out _).mono ?_; rintro e w1 ⟨rfl, rfl⟩))
    go_ret2
    exact ⟨by rw [HR.out]; first | done | rfl, Below.refl _ _⟩
set_option maxRecDepth 100000 in
set_option maxHeartbeats 1600000 in
theorem rAdd_mon6 (t n : Int) (hv : validI t = true) (w : World) :
    Calls Tryd.prog 34 #[.int .i64 t, .int .i64 n, .string ⟨List.toArray [121, 101, 97, 114]⟩] w fun e w' => e = .returned (.tuple #[.int .i64 (addC t n 6).1, .int .i64 (addC t n 6).2]) ∧ Below w.heap.size w w' := by
  have h1 := (validI_iff t).1 hv
  have hD := valid_date hv
  have HV := Lib.hid (fun W => rright_any t W)
  rw [hv] at HV
  have HU := Lib.hid (fun W => runit_any [121, 101, 97, 114] W)
  rw [show ruC [121, 101, 97, 114] = (0, true) by decide] at HU
  have HA := Lib.hid (add_mon (t := t) (n := n) (u := 6) (by decide))
  rw [show monU 6 = 12 by decide] at HA
  have HD := Lib.hid (fun W => rdate_any t h1.1 (by omega) W)
  have HT : Hid (∀ k : Int, ((dateC t).shift k).time = (dayNo (((dateC t).ix + k) / 12) (((dateC t).ix + k) % 12 + 1) (min (dateC t).d (dim (((dateC t).ix + k) / 12) (((dateC t).ix + k) % 12 + 1))) - 719162) * 86400 + (dateC t).h * 3600 + (dateC t).mi * 60 + (dateC t).s) := fun k => rfl
  obtain ⟨hok, -, hy9⟩ := hD
  have q1 := hok.date.y1; have q2 := hok.date.m1; have q3 := hok.date.m12; have q4 := hok.date.d1; have q5 := hok.date.dn; have q6 := dim_ge (dateC t).y (dateC t).m
  have q7 := hok.h0; have q8 := hok.h1; have q9 := hok.mi0; have q10 := hok.mi1; have q11 := hok.s0; have q12 := hok.s1
  have q5b : (dateC t).d ≤ 31 := by omega
  have hix : (dateC t).ix = 12 * (dateC t).y + (dateC t).m - 1 := rfl
  generalize addC t n 6 = R at *
  clear hok q5 q6 hv
  generalize dateC t = D at *
  obtain ⟨y, m, d, h, mi, s0⟩ := D
  simp only [DT.v] at *
  obtain ⟨x, hxe⟩ : ∃ x, n * 12 = x := ⟨_, rfl⟩
  rw [hxe] at HA
  rw [hix] at HA HT
  have HW1 := Lib.hid (fun W => rin_any n (-400000000000) 400000000000 W)
  have hw1 : winI n (-400000000000) 400000000000 = decide (-400000000000 ≤ n ∧ n ≤ 400000000000) := by simp [winI]
  by_cases c1 : -400000000000 ≤ n ∧ n ≤ 400000000000
  · rw [hw1, decide_eq_true c1] at HW1
    have hxb : -4800000000000 ≤ x ∧ x ≤ 4800000000000 := by omega
    obtain ⟨q, hq⟩ : ∃ q, 12 * y + m - 1 + x = q := ⟨_, rfl⟩
    have HT1 := Lib.hid (HT.out x)
    rw [hq] at HA HT1
    have hqb : -13000000000000 ≤ q ∧ q ≤ 13000000000000 := by omega
    clear HT hix hw1
    skip
    skip
    by_cases c2 : 12 ≤ q ∧ q < 120000
    · have HR : Hid (R = (((⟨y, m, d, h, mi, s0⟩ : DT).shift x).time, 0)) := by show _ = _; rw [HA.out, if_pos c2]
      have hqd : q.tdiv 12 = q / 12 := Int.tdiv_eq_ediv_of_nonneg (by omega)
      have hqm : q.tmod 12 = q % 12 := Int.tmod_eq_emod_of_nonneg (by omega)
      have hyb : 1 ≤ q / 12 ∧ q / 12 ≤ 9999 := by omega
      have hmb : 0 ≤ q % 12 ∧ q % 12 ≤ 11 := by omega
      generalize q / 12 = yy at *
      generalize q % 12 = mm at *
      have HDY := Lib.hid (fun W => rlength_any yy (mm + 1) (by omega) W)
      have hdg := dim_ge yy (mm + 1)
      obtain ⟨dn, hdn⟩ : ∃ dn, dim yy (mm + 1) = dn := ⟨_, rfl⟩
      have hmn : 1 ≤ min d dn ∧ min d dn ≤ 31 := by omega
      have hmx : min d dn ≤ dn := Int.min_le_right _ _
      obtain ⟨dd, hdd⟩ : ∃ dd, min d dn = dd := ⟨_, rfl⟩
      have HTM := Lib.hid (fun W => rTime_any yy (mm + 1) dd h mi s0 W)
      have hval : timeC yy (mm + 1) dd h mi s0 = (((⟨y, m, d, h, mi, s0⟩ : DT).shift x).time, 0) := by
        rw [HT1.out, hdn, hdd]
        unfold timeC
        rw [if_pos]
        simp only [validB, decide_eq_true_eq]
        rw [hdn]
        omega
      rw [hval] at HTM
      rw [hdn] at HDY hdg
      rw [hdd] at hmn hmx
      clear HA HT1 hval hdn
      generalize ((⟨y, m, d, h, mi, s0⟩ : DT).shift x).time = T at *
      go_enter Tryd.func34, Tryd.ntmps34
      go_wp2_with (first | (go_at_call 44; refine (HV.out _).mono ?_; rintro e w1 ⟨rfl, rfl⟩) | (go_at_call 68; refine (HU.out _).mono ?_; rintro e w1 ⟨rfl, rfl⟩) | (go_at_call 49; refine (HW1.out _).mono ?_; rintro e w1 ⟨rfl, rfl⟩) | (go_at_call 54; refine (HD.out _).mono ?_; rintro e w1 ⟨rfl, hb1⟩; obtain ⟨c0, c1, c2, c3, c4, c5⟩ := cells6_new w1 (.int .i64 y) (.int .i64 m) (.int .i64 d) (.int .i64 h) (.int .i64 mi) (.int .i64 s0) 30; have HB := Lib.hid (hb1.alloc hb1.size (.cells #[.int .i64 y, .int .i64 m, .int .i64 d, .int .i64 h, .int .i64 mi, .int .i64 s0] 30))))
      go_region_with (go_at_call 59; refine (HDY.out _).mono ?_; rintro e w2 ⟨rfl, rfl⟩)
      all_goals (go_wp2_with (go_at_call 18; refine (HTM.out _).mono ?_; rintro e w3 ⟨rfl, hb3⟩); go_ret2; have HBF := below_drewN (hb1.alloc hb1.size (.cells #[.int .i64 yy, .int .i64 (mm + 1), .int .i64 dd, .int .i64 h, .int .i64 mi, .int .i64 s0] 30)) 1; exact ⟨by rw [HR.out]; first | done | rfl, HBF.trans (hb3.mono HBF.size)⟩)
    · have HR : Hid (R = (0, 7)) := by show _ = _; rw [HA.out, if_neg c2]
      clear HA HT1
      have hsplit : q < 12 ∨ (12 ≤ q ∧ 120000 ≤ q) := by omega
      clear c2
      rcases hsplit with hs1 | ⟨hs1, hs2⟩
      all_goals
        go_enter Tryd.func34, Tryd.ntmps34
        go_wp2_with (first | (go_at_call 44; refine (HV.out _).mono ?_; rintro e w1 ⟨rfl, rfl⟩) | (go_at_call 68; refine (HU.out _).mono ?_; rintro e w1 ⟨rfl, rfl⟩) | (go_at_call 49; refine (HW1.out _).mono ?_; rintro e w1 ⟨rfl, rfl⟩) | (go_at_call 54; refine (HD.out _).mono ?_; rintro e w1 ⟨rfl, hb1⟩; obtain ⟨c0, c1, c2, c3, c4, c5⟩ := cells6_new w1 (.int .i64 y) (.int .i64 m) (.int .i64 d) (.int .i64 h) (.int .i64 mi) (.int .i64 s0) 30; have HB := Lib.hid (hb1.alloc hb1.size (.cells #[.int .i64 y, .int .i64 m, .int .i64 d, .int .i64 h, .int .i64 mi, .int .i64 s0] 30))))
        go_ret2
        exact ⟨by rw [HR.out]; first | done | rfl, HB.out⟩
  · rw [hw1, decide_eq_false c1] at HW1
    have HR : Hid (R = (0, 7)) := by show _ = _; rw [HA.out, if_neg (by omega)]
    clear hw1 HA HT c1
    go_enter Tryd.func34, Tryd.ntmps34
    go_wp2_with (first | (go_at_call 44; refine (HV.out _).mono ?_; rintro e w1 ⟨rfl, rfl⟩) | (go_at_call 68; refine (HU.out _).mono ?_; rintro e w1 ⟨rfl, rfl⟩) | (go_at_call 49; refine (HW1.out _).mono ?_; rintro e w1 ⟨rfl, rfl⟩))
    go_ret2
    exact ⟨by rw [HR.out]; first | done | rfl, Below.refl _ _⟩
theorem addR_all (t n : Int) (s : Bs) (w : World) :
    Calls Tryd.prog 34 #[.int .i64 t, .int .i64 n, .string ⟨s.toArray⟩] w fun e w' => e = .returned (.tuple #[.int .i64 (addR t n s).1, .int .i64 (addR t n s).2]) ∧ Below w.heap.size w w' := by
  by_cases hv : validI t = true
  · cases hu : unitC s with
    | some u =>
      have hR : addR t n s = addC t n u := by unfold addR; rw [if_pos hv, hu]
      rw [hR]
      rcases sec_cases (unitC_le hu) with hs | ⟨hs, hm⟩
      · exact rAdd_secs t n s u hu hs hv w
      · have hn := unitC_name hu
        have h56 : u = 5 ∨ u = 6 := by
          have := unitC_le hu
          rcases (show u = 0 ∨ u = 1 ∨ u = 2 ∨ u = 3 ∨ u = 4 ∨ u = 5 ∨ u = 6 by omega) with rfl | rfl | rfl | rfl | rfl | rfl | rfl <;> simp [secU] at hs <;> omega
        rcases h56 with rfl | rfl
        · rw [hn.1 rfl]; exact rAdd_mon5 t n hv w
        · rw [hn.2 rfl]; exact rAdd_mon6 t n hv w
    | none =>
      have hR : addR t n s = (0, 5) := by unfold addR; rw [if_pos hv, hu]
      rw [hR]
      exact rAdd_err t n s 5 (.inr ⟨hv, hu, rfl⟩) w
  · have hR : addR t n s = (0, 7) := by unfold addR; rw [if_neg hv]
    rw [hR]
    exact rAdd_err t n s 7 (.inl ⟨by simpa using hv, rfl⟩) w
end Go.Proofs.YtmidphmniikdpaaDoor
