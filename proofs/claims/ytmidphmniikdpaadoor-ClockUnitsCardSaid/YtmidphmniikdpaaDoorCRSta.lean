/- Contracts of the reference's units: Start. -/
import Derived.Test.YtmidphmniikdpaaDoorCRAdd2
import Derived.Test.YtmidphmniikdpaaDoorCStaP
import Derived.Deep.RegionWith
namespace Go.Proofs.YtmidphmniikdpaaDoor
set_option linter.unusedVariables false
set_option linter.unusedSimpArgs false
open Go.RowKit

theorem unitC_low {s : Bs} {u : Nat} (h : unitC s = some u) (hu : u ≤ 4) : (s == [109, 111, 110, 116, 104]) = false ∧ (s == [121, 101, 97, 114]) = false := by
  refine ⟨beq_eq_false_iff_ne.2 ?_, beq_eq_false_iff_ne.2 ?_⟩
  · rintro rfl
    have : unitC [109, 111, 110, 116, 104] = some 5 := by decide
    rw [this] at h; cases h; omega
  · rintro rfl
    have : unitC [121, 101, 97, 114] = some 6 := by decide
    rw [this] at h; cases h; omega
set_option maxRecDepth 100000 in
set_option maxHeartbeats 1600000 in
theorem rSta_err (t : Int) (s : Bs) (e : Int) (h : (validI t = false ∧ e = 7) ∨ (validI t = true ∧ unitC s = none ∧ e = 5)) (w : World) :
    Calls Tryd.prog 37 #[.int .i64 t, .string ⟨s.toArray⟩] w fun e' w' => e' = .returned (.tuple #[.int .i64 0, .int .i64 e]) ∧ Below w.heap.size w w' := by
  have HV := Lib.hid (fun W => rright_any t W)
  have HU := Lib.hid (fun W => runit_any s W)
  rcases h with ⟨hv, rfl⟩ | ⟨hv, hu, rfl⟩
  · rw [hv] at HV
    go_enter Tryd.func37, Tryd.ntmps37
    go_wp2_with (first | (go_at_call_of 44 (Value.int .i64 t); refine (HV.out _).mono ?_; rintro e w1 ⟨rfl, rfl⟩) | (go_at_call 68; refine (HU.out _).mono ?_; rintro e w1 ⟨rfl, rfl⟩))
    go_ret2
    exact ⟨by first | done | rfl, Below.refl _ _⟩
  · rw [hv] at HV
    have hr : ruC s = (0, false) := by unfold ruC; rw [hu]
    rw [hr] at HU
    go_enter Tryd.func37, Tryd.ntmps37
    go_wp2_with (first | (go_at_call_of 44 (Value.int .i64 t); refine (HV.out _).mono ?_; rintro e w1 ⟨rfl, rfl⟩) | (go_at_call 68; refine (HU.out _).mono ?_; rintro e w1 ⟨rfl, rfl⟩))
    go_ret2
    exact ⟨by first | done | rfl, Below.refl _ _⟩
set_option maxRecDepth 100000 in
set_option maxHeartbeats 1600000 in
theorem rSta_secs (t : Int) (s : Bs) (u : Nat) (hu : unitC s = some u) (hs : secU u = 1 ∨ secU u = 60 ∨ secU u = 3600 ∨ secU u = 86400 ∨ secU u = 604800) (hv : validI t = true) (w : World) :
    Calls Tryd.prog 37 #[.int .i64 t, .string ⟨s.toArray⟩] w fun e w' => e = .returned (.tuple #[.int .i64 (startC t u), .int .i64 0]) ∧ Below w.heap.size w w' := by
  have h1 := (validI_iff t).1 hv
  have hu4 : u ≤ 4 := by
    have := unitC_le hu
    rcases (show u ≤ 4 ∨ u = 5 ∨ u = 6 by omega) with h | rfl | rfl
    · exact h
    · simp [secU] at hs
    · simp [secU] at hs
  obtain ⟨k1, k2⟩ := unitC_low hu hu4
  have HV := Lib.hid (fun W => rright_any t W)
  have HU := Lib.hid (fun W => runit_any s W)
  rw [hv] at HV
  have hr : ruC s = (secU u, true) := by unfold ruC; rw [hu]
  rw [hr] at HU
  have HD := Lib.hid (fun W => rdate_any t h1.1 (by omega) W)
  have hR : startC t u = t - (t + 62135596800) % secU u := by unfold startC; rw [if_pos (by omega)]
  obtain ⟨X, hX⟩ : ∃ X, t - -62135596800 = X := ⟨_, rfl⟩
  have hX2 : t + 62135596800 = X := by omega
  rw [hX2] at hR
  have hq : X.tmod (secU u) = X % secU u := Int.tmod_eq_emod_of_nonneg (by omega)
  have hsb : 0 < secU u ∧ secU u ≤ 604800 := by omega
  have hqb := Int.emod_nonneg X (show secU u ≠ 0 by omega)
  have hqc := Int.emod_lt_of_pos X (show 0 < secU u by omega)
  rw [hR]
  clear hs hv hu hR hr hX2
  generalize secU u = x at *
  generalize X % x = q at *
  have hsn : (x == 0) = false := beq_eq_false_iff_ne.2 (by omega)
  have hs0 : ¬ x = 0 := by omega
  have hXb : 0 ≤ X ∧ X ≤ 400000000000 := by omega
  generalize dateC t = D1 at *
  obtain ⟨y, m, d, h, mi, s0⟩ := D1
  simp only [DT.v] at *
  go_enter Tryd.func37, Tryd.ntmps37
  go_wp2_with (first | (go_at_call_of 44 (Value.int .i64 t); refine (HV.out _).mono ?_; rintro e w1 ⟨rfl, rfl⟩) | (go_at_call 68; refine (HU.out _).mono ?_; rintro e w1 ⟨rfl, rfl⟩) | (go_at_call 54; refine (HD.out _).mono ?_; rintro e w1 ⟨rfl, hb1⟩; obtain ⟨c0, c1, c2, c3, c4, c5⟩ := cells6_new w1 (.int .i64 y) (.int .i64 m) (.int .i64 d) (.int .i64 h) (.int .i64 mi) (.int .i64 s0) 30; have HB := Lib.hid (hb1.alloc hb1.size (.cells #[.int .i64 y, .int .i64 m, .int .i64 d, .int .i64 h, .int .i64 mi, .int .i64 s0] 30))))
  go_ret2
  exact ⟨by first | done | rfl, HB.out⟩
set_option maxRecDepth 100000 in
set_option maxHeartbeats 1600000 in
theorem rSta_mon5 (t : Int) (hv : validI t = true) (w : World) :
    Calls Tryd.prog 37 #[.int .i64 t, .string ⟨List.toArray [109, 111, 110, 116, 104]⟩] w fun e w' => e = .returned (.tuple #[.int .i64 (startC t 5), .int .i64 0]) ∧ Below w.heap.size w w' := by
  have h1 := (validI_iff t).1 hv
  have HV := Lib.hid (fun W => rright_any t W)
  have HU := Lib.hid (fun W => runit_any [109, 111, 110, 116, 104] W)
  rw [hv] at HV
  rw [show ruC [109, 111, 110, 116, 104] = (0, true) by decide] at HU
  have HD := Lib.hid (fun W => rdate_any t h1.1 (by omega) W)
  obtain ⟨oa, ta, ya⟩ := valid_date hv
  have p1 := oa.date.y1; have p2 := oa.date.m1; have p3 := oa.date.m12
  have hst : startC t 5 = (dayNo (dateC t).y (dateC t).m 1 - 719162) * 86400 := by unfold startC; rw [if_neg (by decide)]; rfl
  have HN := Lib.hid (fun W => rnumber_any (dateC t).y (dateC t).m 1 p1 (by omega) (by omega) (by omega) (by omega) (by omega) W)
  have hb := dayNo_bound (y := (dateC t).y) (m := (dateC t).m) (d := 1) (by omega) (by omega) (by omega) (by omega) (by omega) (by omega)
  rw [hst]
  generalize dayNo (dateC t).y (dateC t).m 1 = q at *
  clear oa ta hv hst
  generalize dateC t = D1 at *
  obtain ⟨y, m, d, h, mi, s0⟩ := D1
  simp only [DT.v] at *
  go_enter Tryd.func37, Tryd.ntmps37
  go_wp2_with (first | (go_at_call_of 44 (Value.int .i64 t); refine (HV.out _).mono ?_; rintro e w1 ⟨rfl, rfl⟩) | (go_at_call 68; refine (HU.out _).mono ?_; rintro e w1 ⟨rfl, rfl⟩) | (go_at_call 54; refine (HD.out _).mono ?_; rintro e w1 ⟨rfl, hb1⟩; obtain ⟨c0, c1, c2, c3, c4, c5⟩ := cells6_new w1 (.int .i64 y) (.int .i64 m) (.int .i64 d) (.int .i64 h) (.int .i64 mi) (.int .i64 s0) 30; have HB := Lib.hid (hb1.alloc hb1.size (.cells #[.int .i64 y, .int .i64 m, .int .i64 d, .int .i64 h, .int .i64 mi, .int .i64 s0] 30))) | (go_at_call 50; refine (HN.out _).mono ?_; rintro e w2 ⟨rfl, rfl⟩))
  go_ret2
  exact ⟨by first | done | rfl | (congr 5; omega) | (simp; omega), HB.out⟩
set_option maxRecDepth 100000 in
set_option maxHeartbeats 1600000 in
theorem rSta_mon6 (t : Int) (hv : validI t = true) (w : World) :
    Calls Tryd.prog 37 #[.int .i64 t, .string ⟨List.toArray [121, 101, 97, 114]⟩] w fun e w' => e = .returned (.tuple #[.int .i64 (startC t 6), .int .i64 0]) ∧ Below w.heap.size w w' := by
  have h1 := (validI_iff t).1 hv
  have HV := Lib.hid (fun W => rright_any t W)
  have HU := Lib.hid (fun W => runit_any [121, 101, 97, 114] W)
  rw [hv] at HV
  rw [show ruC [121, 101, 97, 114] = (0, true) by decide] at HU
  have HD := Lib.hid (fun W => rdate_any t h1.1 (by omega) W)
  obtain ⟨oa, ta, ya⟩ := valid_date hv
  have p1 := oa.date.y1; have p2 := oa.date.m1; have p3 := oa.date.m12
  have hst : startC t 6 = (dayNo (dateC t).y 1 1 - 719162) * 86400 := by unfold startC; rw [if_neg (by decide)]; rfl
  have HN := Lib.hid (fun W => rnumber_any (dateC t).y 1 1 p1 (by omega) (by omega) (by omega) (by omega) (by omega) W)
  have hb := dayNo_bound (y := (dateC t).y) (m := 1) (d := 1) (by omega) (by omega) (by omega) (by omega) (by omega) (by omega)
  rw [hst]
  generalize dayNo (dateC t).y 1 1 = q at *
  clear oa ta hv hst
  generalize dateC t = D1 at *
  obtain ⟨y, m, d, h, mi, s0⟩ := D1
  simp only [DT.v] at *
  go_enter Tryd.func37, Tryd.ntmps37
  go_wp2_with (first | (go_at_call_of 44 (Value.int .i64 t); refine (HV.out _).mono ?_; rintro e w1 ⟨rfl, rfl⟩) | (go_at_call 68; refine (HU.out _).mono ?_; rintro e w1 ⟨rfl, rfl⟩) | (go_at_call 54; refine (HD.out _).mono ?_; rintro e w1 ⟨rfl, hb1⟩; obtain ⟨c0, c1, c2, c3, c4, c5⟩ := cells6_new w1 (.int .i64 y) (.int .i64 m) (.int .i64 d) (.int .i64 h) (.int .i64 mi) (.int .i64 s0) 30; have HB := Lib.hid (hb1.alloc hb1.size (.cells #[.int .i64 y, .int .i64 m, .int .i64 d, .int .i64 h, .int .i64 mi, .int .i64 s0] 30))) | (go_at_call 50; refine (HN.out _).mono ?_; rintro e w2 ⟨rfl, rfl⟩))
  go_ret2
  exact ⟨by first | done | rfl | (congr 5; omega) | (simp; omega), HB.out⟩
theorem rStart_any (t : Int) (s : Bs) (w : World) :
    Calls Tryd.prog 37 #[.int .i64 t, .string ⟨s.toArray⟩] w fun e w' => e = .returned (.tuple #[.int .i64 (startR t s).1, .int .i64 (startR t s).2]) ∧ Below w.heap.size w w' := by
  by_cases hv : validI t = true
  · cases hu : unitC s with
    | some u =>
      have hR : startR t s = (startC t u, 0) := by unfold startR; rw [if_pos hv, hu]
      rw [hR]
      rcases sec_cases (unitC_le hu) with hs | ⟨hs, hm⟩
      · exact rSta_secs t s u hu hs hv w
      · have hn := unitC_name hu
        have h56 : u = 5 ∨ u = 6 := by
          have := unitC_le hu
          rcases (show u = 0 ∨ u = 1 ∨ u = 2 ∨ u = 3 ∨ u = 4 ∨ u = 5 ∨ u = 6 by omega) with rfl | rfl | rfl | rfl | rfl | rfl | rfl <;> simp [secU] at hs <;> omega
        rcases h56 with rfl | rfl
        · rw [hn.1 rfl]; exact rSta_mon5 t hv w
        · rw [hn.2 rfl]; exact rSta_mon6 t hv w
    | none =>
      have hR : startR t s = (0, 5) := by unfold startR; rw [if_pos hv, hu]
      rw [hR]
      exact rSta_err t s 5 (.inr ⟨hv, hu, rfl⟩) w
  · have hR : startR t s = (0, 7) := by unfold startR; rw [if_neg hv]
    rw [hR]
    exact rSta_err t s 7 (.inl ⟨by simpa using hv, rfl⟩) w
end Go.Proofs.YtmidphmniikdpaaDoor
