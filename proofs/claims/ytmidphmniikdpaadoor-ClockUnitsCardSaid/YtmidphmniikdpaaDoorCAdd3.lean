/- Contracts of the units: add of months and years. -/
import Derived.Test.YtmidphmniikdpaaDoorCAdd2
import Derived.Deep.RegionWith
namespace Go.Proofs.YtmidphmniikdpaaDoor
set_option linter.unusedVariables false
set_option linter.unusedSimpArgs false
open Go.RowKit

set_option maxRecDepth 100000 in
set_option maxHeartbeats 1600000 in
theorem add_mons (t n : Int) (u : Nat) (hu : u ≤ 6) (hs : secU u = 0) (hm : monU u = 1 ∨ monU u = 12) (hv : validI t = true) (w : World) :
    Calls Tryd.prog 65 #[.int .i64 t, .int .i64 n, .int .i64 (u : Int)] w fun e w' => e = .returned (.tuple #[.int .i64 (addC t n u).1, .int .i64 (addC t n u).2]) ∧ Below w.heap.size w w' := by
  have h1 := (validI_iff t).1 hv
  have hD := valid_date hv
  have HS := Lib.hid (fun W => seconds_any u hu W)
  rw [hs] at HS
  have HMO := Lib.hid (fun W => months_u u hu W)
  have HA := Lib.hid (add_mon (t := t) (n := n) (u := u) hs)
  have HD := Lib.hid (fun W => date_any t h1.1 (by omega) W)
  have HT : Hid (∀ k : Int, ((dateC t).shift k).time = (dayNo (((dateC t).ix + k) / 12) (((dateC t).ix + k) % 12 + 1) (min (dateC t).d (dim (((dateC t).ix + k) / 12) (((dateC t).ix + k) % 12 + 1))) - 719162) * 86400 + (dateC t).h * 3600 + (dateC t).mi * 60 + (dateC t).s) := fun k => rfl
  have hx : (n < -1000000000000 ∨ 1000000000000 < n → n * monU u < -1000000000000 ∨ 1000000000000 < n * monU u) ∧ (-1000000000000 ≤ n → n ≤ 1000000000000 → -12000000000000 ≤ n * monU u ∧ n * monU u ≤ 12000000000000) := by
    rcases hm with h | h <;> rw [h] <;> omega
  obtain ⟨hok, -, hy9⟩ := hD
  have q1 := hok.date.y1; have q2 := hok.date.m1; have q3 := hok.date.m12; have q4 := hok.date.d1; have q5 := hok.date.dn; have q6 := dim_ge (dateC t).y (dateC t).m
  have q7 := hok.h0; have q8 := hok.h1; have q9 := hok.mi0; have q10 := hok.mi1; have q11 := hok.s0; have q12 := hok.s1
  have q5b : (dateC t).d ≤ 31 := by omega
  have hix : (dateC t).ix = 12 * (dateC t).y + (dateC t).m - 1 := rfl
  have hmb : 1 ≤ monU u ∧ monU u ≤ 12 := by omega
  generalize addC t n u = R at *
  generalize monU u = mo at *
  clear hok q5 q6 hs hm hv
  generalize dateC t = D at *
  obtain ⟨y, m, d, h, mi, s⟩ := D
  simp only [DT.v] at *
  obtain ⟨x, hxe⟩ : ∃ x, n * mo = x := ⟨_, rfl⟩
  rw [hxe] at HA hx
  rw [hix] at HA HT
  have HW1 := Lib.hid (fun W => within_any n (-1000000000000) 1000000000000 W)
  have hw1 : winI n (-1000000000000) 1000000000000 = decide (-1000000000000 ≤ n ∧ n ≤ 1000000000000) := by simp [winI]
  by_cases c1 : -1000000000000 ≤ n ∧ n ≤ 1000000000000
  · rw [hw1, decide_eq_true c1] at HW1
    have hxb := hx.2 c1.1 c1.2
    obtain ⟨q, hq⟩ : ∃ q, 12 * y + m - 1 + x = q := ⟨_, rfl⟩
    have HT1 := Lib.hid (HT.out x)
    rw [hq] at HA HT1
    have hqb : -13000000000000 ≤ q ∧ q ≤ 13000000000000 := by omega
    have HDN := Lib.hid (fun W => down_any q 12 (by omega) (by omega) (by omega) (by omega) W)
    have hqm : 0 ≤ q % 12 ∧ q % 12 ≤ 11 := by omega
    have hqy : -13000000000000 ≤ q / 12 ∧ q / 12 ≤ 13000000000000 := by omega
    have hcond : (12 ≤ q ∧ q < 120000) ↔ (1 ≤ q / 12 ∧ q / 12 ≤ 9999) := by omega
    generalize q / 12 = yy at *
    generalize q % 12 = mm at *
    have HW2 := Lib.hid (fun W => within_any yy 1 9999 W)
    have hw2 : winI yy 1 9999 = decide (1 ≤ yy ∧ yy ≤ 9999) := by simp [winI]
    clear hx hw1 HT hix
    by_cases c2 : 1 ≤ yy ∧ yy ≤ 9999
    · rw [hw2, decide_eq_true c2] at HW2
      have HR : Hid (R = (((⟨y, m, d, h, mi, s⟩ : DT).shift x).time, 0)) := by show _ = _; rw [HA.out, if_pos (hcond.2 c2)]
      have HDY := Lib.hid (fun W => days_any yy (mm + 1) (by omega) (by omega) (by omega) W)
      have hdg := dim_ge yy (mm + 1)
      obtain ⟨dn, hdn⟩ : ∃ dn, dim yy (mm + 1) = dn := ⟨_, rfl⟩
      rw [hdn] at HDY HT1 hdg
      have hmn : 1 ≤ min d dn ∧ min d dn ≤ 31 := by omega
      obtain ⟨dd, hdd⟩ : ∃ dd, min d dn = dd := ⟨_, rfl⟩
      rw [hdd] at HT1 hmn
      have HTM := Lib.hid (fun W => time_any yy (mm + 1) dd h mi s (by omega) (by omega) (by omega) (by omega) (by omega) (by omega) (by omega) (by omega) (by omega) (by omega) (by omega) (by omega) W)
      rw [← HT1.out] at HTM
      clear hcond HA hw2 hdn
      generalize ((⟨y, m, d, h, mi, s⟩ : DT).shift x).time = T at *
      clear HT1
      go_enter Tryd.func65, Tryd.ntmps65
      go_wp2_with (first | (go_at_call 47; refine (HW1.out _).mono ?_; rintro e w1 ⟨rfl, rfl⟩) | (go_at_call 66; refine (HS.out _).mono ?_; rintro e w1 ⟨rfl, rfl⟩) | (go_at_call 53; refine (HD.out _).mono ?_; rintro e w1 ⟨rfl, hb1⟩; obtain ⟨c0, c1, c2, c3, c4, c5⟩ := cells6_new w1 (.int .i64 y) (.int .i64 m) (.int .i64 d) (.int .i64 h) (.int .i64 mi) (.int .i64 s) 30; have HB := Lib.hid (hb1.alloc hb1.size (.cells #[.int .i64 y, .int .i64 m, .int .i64 d, .int .i64 h, .int .i64 mi, .int .i64 s] 30))))
      go_quiet (first | (go_at_call 67; exact Calls.quiet_of_same ((HMO.out _).mono fun e w' h => ⟨h.1, h.2.symm⟩)) | (go_at_call 95; exact Calls.quiet_of (HDN.out _)))
      go_wp2_with (go_at_call_of 47 yy; refine (HW2.out _).mono ?_; rintro e w1 ⟨rfl, rfl⟩)
      go_region_with (go_at_call 58; refine (HDY.out _).mono ?_; rintro e w2 ⟨rfl, rfl⟩)
      all_goals (go_wp2_with (go_at_call 55; refine (HTM.out _).mono ?_; rintro e w3 ⟨rfl, hb3⟩); go_ret2; have HBF := below_drewN ((((below_drewN HB.out nq).setCell (p := ⟨w1.heap.size, 0, none⟩) hb1.size (.int .i64 yy)).setCell (p := ⟨w1.heap.size, 1, none⟩) hb1.size (.int .i64 (mm + 1))).setCell (p := ⟨w1.heap.size, 2, none⟩) hb1.size (.int .i64 dd)) 1; exact ⟨by rw [HR.out]; rfl, HBF.trans (hb3.mono HBF.size)⟩)
    · rw [hw2, decide_eq_false c2] at HW2
      have HR : Hid (R = (0, 7)) := by show _ = _; rw [HA.out, if_neg (fun h => c2 (hcond.1 h))]
      clear hcond HA hw2 HT1
      go_enter Tryd.func65, Tryd.ntmps65
      go_wp2_with (first | (go_at_call 47; refine (HW1.out _).mono ?_; rintro e w1 ⟨rfl, rfl⟩) | (go_at_call 66; refine (HS.out _).mono ?_; rintro e w1 ⟨rfl, rfl⟩) | (go_at_call 53; refine (HD.out _).mono ?_; rintro e w1 ⟨rfl, hb1⟩; obtain ⟨c0, c1, c2, c3, c4, c5⟩ := cells6_new w1 (.int .i64 y) (.int .i64 m) (.int .i64 d) (.int .i64 h) (.int .i64 mi) (.int .i64 s) 30; have HB := Lib.hid (hb1.alloc hb1.size (.cells #[.int .i64 y, .int .i64 m, .int .i64 d, .int .i64 h, .int .i64 mi, .int .i64 s] 30))))
      go_quiet (first | (go_at_call 67; exact Calls.quiet_of_same ((HMO.out _).mono fun e w' h => ⟨h.1, h.2.symm⟩)) | (go_at_call 95; exact Calls.quiet_of (HDN.out _)))
      go_wp2_with (go_at_call_of 47 yy; refine (HW2.out _).mono ?_; rintro e w1 ⟨rfl, rfl⟩)
      go_ret2
      exact ⟨by rw [HR.out]; first | done | rfl, (((below_drewN HB.out nq).setCell (p := ⟨w1.heap.size, 0, none⟩) hb1.size (.int .i64 yy)).setCell (p := ⟨w1.heap.size, 1, none⟩) hb1.size (.int .i64 (mm + 1)))⟩
  · rw [hw1, decide_eq_false c1] at HW1
    have HR : Hid (R = (0, 7)) := by show _ = _; rw [HA.out, if_neg (by omega)]
    clear hw1 hx HA HT
    go_enter Tryd.func65, Tryd.ntmps65
    go_wp2_with (go_at_call 47; refine (HW1.out _).mono ?_; rintro e w1 ⟨rfl, rfl⟩)
    go_ret2
    exact ⟨by rw [HR.out]; first | done | rfl, Below.refl _ _⟩
/-- 'add', whatever the unit. -/
theorem add_any (t n : Int) (u : Nat) (hu : u ≤ 6) (hv : validI t = true) (w : World) :
    Calls Tryd.prog 65 #[.int .i64 t, .int .i64 n, .int .i64 (u : Int)] w fun e w' => e = .returned (.tuple #[.int .i64 (addC t n u).1, .int .i64 (addC t n u).2]) ∧ Below w.heap.size w w' := by
  rcases sec_cases hu with hs | ⟨hs, hm⟩
  · exact add_secs t n u hu hs hv w
  · exact add_mons t n u hu hs hm hv w
end Go.Proofs.YtmidphmniikdpaaDoor
