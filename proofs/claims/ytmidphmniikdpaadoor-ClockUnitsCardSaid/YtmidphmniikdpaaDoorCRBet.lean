/- Contracts of the reference's units: Between. -/
import Derived.Test.YtmidphmniikdpaaDoorCRAdd2
import Derived.Test.YtmidphmniikdpaaDoorCAdd5
import Derived.Deep.RegionWith
namespace Go.Proofs.YtmidphmniikdpaaDoor
set_option linter.unusedVariables false
set_option linter.unusedSimpArgs false
open Go.RowKit

theorem bet_down {a b : Int} {u : Nat} (hs : secU u = 0) (hm : monU u = 1 ∨ monU u = 12) (ha : validI a = true) (hb : validI b = true) (hab : a ≤ b) {N : Int}
    (hN : N = ((dateC b).ix - (dateC a).ix) / monU u ∨ N = ((dateC b).ix - (dateC a).ix) / monU u + 1) :
    0 ≤ betC a b u ∧ betC a b u ≤ N ∧ N ≤ 120001 ∧ ∀ n, betC a b u ≤ n → n ≤ N → ((n = betC a b u ∧ (addC a n u).2 = 0 ∧ (addC a n u).1 ≤ b) ∨ (betC a b u < n ∧ ((addC a n u).2 ≠ 0 ∨ b < (addC a n u).1))) := by
  obtain ⟨n0, h0, h1, h2, h3, h4, h5⟩ := bet_mon hs hm ha hb hab
  rw [h0] at hN
  have hbet : betC a b u = if (addC a n0 u).1 ≤ b then n0 else n0 - 1 := by unfold betC; rw [if_neg (by omega), h0]
  by_cases hle : (addC a n0 u).1 ≤ b
  · rw [if_pos hle] at hbet
    rw [hbet]
    refine ⟨h1, by omega, by omega, fun n g1 g2 => ?_⟩
    rcases (show n = n0 ∨ n = n0 + 1 by omega) with rfl | rfl
    · exact .inl ⟨rfl, h3, hle⟩
    · exact .inr ⟨by omega, h5⟩
  · rw [if_neg hle] at hbet
    rw [hbet]
    obtain ⟨k1, k2, k3⟩ := h4 (by omega)
    refine ⟨by omega, by omega, by omega, fun n g1 g2 => ?_⟩
    rcases (show n = n0 - 1 ∨ n = n0 ∨ n = n0 + 1 by omega) with rfl | rfl | rfl
    · exact .inl ⟨rfl, k2, k3⟩
    · exact .inr ⟨by omega, .inr (by omega)⟩
    · exact .inr ⟨by omega, h5⟩
set_option maxRecDepth 100000 in
set_option maxHeartbeats 1600000 in
theorem rBet_err (a b : Int) (s : Bs) (e : Int) (h : (validI a = false ∧ e = 7) ∨ (validI a = true ∧ validI b = false ∧ e = 7) ∨ (validI a = true ∧ validI b = true ∧ unitC s = none ∧ e = 5)) (w : World) :
    Calls Tryd.prog 35 #[.int .i64 a, .int .i64 b, .string ⟨s.toArray⟩] w fun e' w' => e' = .returned (.tuple #[.int .i64 0, .int .i64 e]) ∧ Below w.heap.size w w' := by
  have HV := Lib.hid (fun W => rright_any a W)
  have HV2 := Lib.hid (fun W => rright_any b W)
  have HU := Lib.hid (fun W => runit_any s W)
  rcases h with ⟨hv, rfl⟩ | ⟨hv, hv2, rfl⟩ | ⟨hv, hv2, hu, rfl⟩
  · rw [hv] at HV
    go_enter Tryd.func35, Tryd.ntmps35
    go_wp2_with (first | (go_at_call_of 44 (Value.int .i64 a); refine (HV.out _).mono ?_; rintro e w1 ⟨rfl, rfl⟩) | (go_at_call_of 44 (Value.int .i64 b); refine (HV2.out _).mono ?_; rintro e w1 ⟨rfl, rfl⟩) | (go_at_call 68; refine (HU.out _).mono ?_; rintro e w1 ⟨rfl, rfl⟩))
    go_ret2
    exact ⟨by first | done | rfl, Below.refl _ _⟩
  · rw [hv] at HV
    rw [hv2] at HV2
    go_enter Tryd.func35, Tryd.ntmps35
    go_wp2_with (first | (go_at_call_of 44 (Value.int .i64 a); refine (HV.out _).mono ?_; rintro e w1 ⟨rfl, rfl⟩) | (go_at_call_of 44 (Value.int .i64 b); refine (HV2.out _).mono ?_; rintro e w1 ⟨rfl, rfl⟩) | (go_at_call 68; refine (HU.out _).mono ?_; rintro e w1 ⟨rfl, rfl⟩))
    go_ret2
    exact ⟨by first | done | rfl, Below.refl _ _⟩
  · rw [hv] at HV
    rw [hv2] at HV2
    have hr : ruC s = (0, false) := by unfold ruC; rw [hu]
    rw [hr] at HU
    go_enter Tryd.func35, Tryd.ntmps35
    go_wp2_with (first | (go_at_call_of 44 (Value.int .i64 a); refine (HV.out _).mono ?_; rintro e w1 ⟨rfl, rfl⟩) | (go_at_call_of 44 (Value.int .i64 b); refine (HV2.out _).mono ?_; rintro e w1 ⟨rfl, rfl⟩) | (go_at_call 68; refine (HU.out _).mono ?_; rintro e w1 ⟨rfl, rfl⟩))
    go_ret2
    exact ⟨by first | done | rfl, Below.refl _ _⟩
set_option maxRecDepth 100000 in
set_option maxHeartbeats 1600000 in
theorem rBet_secs (a b : Int) (s : Bs) (u : Nat) (hu : unitC s = some u) (hs : secU u = 1 ∨ secU u = 60 ∨ secU u = 3600 ∨ secU u = 86400 ∨ secU u = 604800) (hv : validI a = true) (hv2 : validI b = true) (hab : a ≤ b) (w : World) :
    Calls Tryd.prog 35 #[.int .i64 a, .int .i64 b, .string ⟨s.toArray⟩] w fun e w' => e = .returned (.tuple #[.int .i64 (betC a b u), .int .i64 0]) ∧ Below w.heap.size w w' := by
  have h1 := (validI_iff a).1 hv
  have h2 := (validI_iff b).1 hv2
  have HV := Lib.hid (fun W => rright_any a W)
  have HV2 := Lib.hid (fun W => rright_any b W)
  have HU := Lib.hid (fun W => runit_any s W)
  rw [hv] at HV
  rw [hv2] at HV2
  have hr : ruC s = (secU u, true) := by unfold ruC; rw [hu]
  rw [hr] at HU
  have hR : betC a b u = (b - a) / secU u := by unfold betC; rw [if_pos (by omega)]
  have hq : (b - a).tdiv (secU u) = (b - a) / secU u := Int.tdiv_eq_ediv_of_nonneg (by omega)
  have hqb : 0 ≤ (b - a) / secU u ∧ (b - a) / secU u ≤ 400000000000 := by rcases hs with h | h | h | h | h <;> rw [h] <;> omega
  have hsb : 0 < secU u ∧ secU u ≤ 604800 := by omega
  rw [hR]
  clear hs hv hv2 hu hR hr
  generalize secU u = x at *
  generalize (b - a) / x = q at *
  have hsn : (x == 0) = false := beq_eq_false_iff_ne.2 (by omega)
  have hs0 : ¬ x = 0 := by omega
  go_enter Tryd.func35, Tryd.ntmps35
  go_wp2_with (first | (go_at_call_of 44 (Value.int .i64 a); refine (HV.out _).mono ?_; rintro e w1 ⟨rfl, rfl⟩) | (go_at_call_of 44 (Value.int .i64 b); refine (HV2.out _).mono ?_; rintro e w1 ⟨rfl, rfl⟩) | (go_at_call 68; refine (HU.out _).mono ?_; rintro e w1 ⟨rfl, rfl⟩))
  go_ret2
  exact ⟨by first | done | rfl, Below.refl _ _⟩
set_option maxRecDepth 100000 in
set_option maxHeartbeats 3200000 in
theorem rBet_mon5 (a b : Int) (hv : validI a = true) (hv2 : validI b = true) (hab : a ≤ b) (w : World) :
    Calls Tryd.prog 35 #[.int .i64 a, .int .i64 b, .string ⟨List.toArray [109, 111, 110, 116, 104]⟩] w fun e w' => e = .returned (.tuple #[.int .i64 (betC a b 5), .int .i64 0]) ∧ Below w.heap.size w w' := by
  have h1 := (validI_iff a).1 hv
  have h2 := (validI_iff b).1 hv2
  have HV := Lib.hid (fun W => rright_any a W)
  have HV2 := Lib.hid (fun W => rright_any b W)
  have HU := Lib.hid (fun W => runit_any [109, 111, 110, 116, 104] W)
  rw [hv] at HV
  rw [hv2] at HV2
  rw [show ruC [109, 111, 110, 116, 104] = (0, true) by decide] at HU
  have HADD : Hid (∀ n W, Calls Tryd.prog 34 #[.int .i64 a, .int .i64 n, .string ⟨List.toArray [109, 111, 110, 116, 104]⟩] W fun e w' => e = .returned (.tuple #[.int .i64 (addC a n 5).1, .int .i64 (addC a n 5).2]) ∧ Below W.heap.size W w') := fun n W => rAdd_mon5 a n hv W
  have HERR : Hid (∀ n, (addC a n 5).2 = 0 ∨ (addC a n 5).2 = 7) := by
    intro n
    rw [add_mon (by decide)]
    split
    · exact .inl rfl
    · exact .inr rfl
  have HD1 := Lib.hid (fun W => rdate_any a (by omega) (by omega) W)
  have HD2 := Lib.hid (fun W => rdate_any b (by omega) (by omega) W)
  obtain ⟨oa, ta, ya⟩ := valid_date hv
  obtain ⟨ob, tb, yb⟩ := valid_date hv2
  have p1 := oa.date.y1; have p2 := oa.date.m1; have p3 := oa.date.m12
  have p4 := ob.date.y1; have p5 := ob.date.m1; have p6 := ob.date.m12
  have hix := ix_le oa ob (by omega)
  obtain ⟨N, hNe⟩ : ∃ N, 12 * ((dateC b).y - (dateC a).y) + (dateC b).m - (dateC a).m = N := ⟨_, rfl⟩
  have hdown := bet_down (a := a) (b := b) (u := 5) (N := N) (by decide) (by decide) hv hv2 hab (by rw [show monU 5 = 1 by decide]; unfold DT.ix at hix ⊢; omega)
  obtain ⟨hd1, hd2, hd3, hd4⟩ := hdown
  have HDN := Lib.hid hd4
  unfold DT.ix at hix
  clear hd4 oa ob ta tb hv hv2
  generalize betC a b 5 = B at *
  generalize dateC a = D1 at *
  generalize dateC b = D2 at *
  obtain ⟨y1, m1, d1, h1, mi1, s1⟩ := D1
  obtain ⟨y2, m2, d2, h2, mi2, s2⟩ := D2
  simp only [DT.v] at *
  go_enter Tryd.func35, Tryd.ntmps35
  go_wp2_with (first | (go_at_call_of 44 (Value.int .i64 a); refine (HV.out _).mono ?_; rintro e w1 ⟨rfl, rfl⟩) | (go_at_call_of 44 (Value.int .i64 b); refine (HV2.out _).mono ?_; rintro e w1 ⟨rfl, rfl⟩) | (go_at_call 68; refine (HU.out _).mono ?_; rintro e w1 ⟨rfl, rfl⟩) | (go_at_call_of 54 a; refine (HD1.out _).mono ?_; rintro e w1 ⟨rfl, hb1⟩) | (go_at_call_of 54 b; refine (HD2.out _).mono ?_; rintro e w2 ⟨rfl, hb2⟩; obtain ⟨c0, c1, c2, c3, c4, c5⟩ := cells6_new w2 (.int .i64 y1) (.int .i64 m1) (.int .i64 d1) (.int .i64 h1) (.int .i64 mi1) (.int .i64 s1) 30; have hbx := below_alloc1 (w2.alloc (.cells #[.int .i64 y1, .int .i64 m1, .int .i64 d1, .int .i64 h1, .int .i64 mi1, .int .i64 s1] 30)) (.cells #[.int .i64 y2, .int .i64 m2, .int .i64 d2, .int .i64 h2, .int .i64 mi2, .int .i64 s2] 30); obtain ⟨f0, f1, f2, f3, f4, f5⟩ := cells6_step hbx c0 c1 c2 c3 c4 c5; obtain ⟨g0, g1, g2, g3, g4, g5⟩ := cells6_new (w2.alloc (.cells #[.int .i64 y1, .int .i64 m1, .int .i64 d1, .int .i64 h1, .int .i64 mi1, .int .i64 s1] 30)) (.int .i64 y2) (.int .i64 m2) (.int .i64 d2) (.int .i64 h2) (.int .i64 mi2) (.int .i64 s2) 30; have hbb := hb1.trans (hb2.mono hb1.size); have hbc := hbb.alloc hbb.size (.cells #[.int .i64 y1, .int .i64 m1, .int .i64 d1, .int .i64 h1, .int .i64 mi1, .int .i64 s1] 30); have HBF := Lib.hid (hbc.alloc hbc.size (.cells #[.int .i64 y2, .int .i64 m2, .int .i64 d2, .int .i64 h2, .int .i64 mi2, .int .i64 s2] 30)); clear hb1 hb2 hbb hbc hbx c0 c1 c2 c3 c4 c5))
  go_loopw [14, 15, 16] (fun v14 v15 v16 wr => ∃ n : Int, v14 = .int .i64 n ∧ B ≤ n ∧ n ≤ N ∧ Hid (Below w.heap.size w wr)) (fun v14 _ _ _ => (intOf v14 - B).toNat)
  case atStart => exact ⟨N, by go_num, hd2, Int.le_refl _, HBF⟩
  case round =>
    obtain ⟨n, rfl, hn1, hn2, HBR⟩ := hrel
    have HAN := Lib.hid (HADD.out n)
    have hcase := HDN.out n hn1 hn2
    have herr := HERR.out n
    generalize addC a n 5 = R at *
    obtain ⟨r, e⟩ := R
    simp only at hcase herr
    by_cases h0 : 0 < n
    · rcases hcase with ⟨rfl, rfl, hle⟩ | ⟨hlt, hor⟩
      · clear herr
        go_wp2_with (go_at_call 34; refine (HAN.out _).mono ?_; rintro e w3 ⟨rfl, hb3⟩)
        go_ret2
        exact ⟨by first | done | rfl, HBR.out.trans (hb3.mono HBR.out.size)⟩
      · rcases herr with rfl | rfl
        · have hgt : b < r := by rcases hor with h | h; exact absurd rfl h; exact h
          clear hor
          go_wp2_with (go_at_call 34; refine (HAN.out _).mono ?_; rintro e w3 ⟨rfl, hb3⟩)
          go_roundw
          case rel => exact ⟨n - 1, by go_num, by omega, by omega, Lib.hid (HBR.out.trans (hb3.mono HBR.out.size))⟩
          case measure => simp [intOf]; omega
        · clear hor
          go_wp2_with (go_at_call 34; refine (HAN.out _).mono ?_; rintro e w3 ⟨rfl, hb3⟩)
          go_roundw
          case rel => exact ⟨n - 1, by go_num, by omega, by omega, Lib.hid (HBR.out.trans (hb3.mono HBR.out.size))⟩
          case measure => simp [intOf]; omega
    · obtain rfl : n = 0 := by omega
      obtain rfl : B = 0 := by omega
      clear hcase herr
      go_wp2_with fail
      go_ret2
      exact ⟨by first | done | rfl, HBR.out⟩
set_option maxRecDepth 100000 in
set_option maxHeartbeats 3200000 in
theorem rBet_mon6 (a b : Int) (hv : validI a = true) (hv2 : validI b = true) (hab : a ≤ b) (w : World) :
    Calls Tryd.prog 35 #[.int .i64 a, .int .i64 b, .string ⟨List.toArray [121, 101, 97, 114]⟩] w fun e w' => e = .returned (.tuple #[.int .i64 (betC a b 6), .int .i64 0]) ∧ Below w.heap.size w w' := by
  have h1 := (validI_iff a).1 hv
  have h2 := (validI_iff b).1 hv2
  have HV := Lib.hid (fun W => rright_any a W)
  have HV2 := Lib.hid (fun W => rright_any b W)
  have HU := Lib.hid (fun W => runit_any [121, 101, 97, 114] W)
  rw [hv] at HV
  rw [hv2] at HV2
  rw [show ruC [121, 101, 97, 114] = (0, true) by decide] at HU
  have HADD : Hid (∀ n W, Calls Tryd.prog 34 #[.int .i64 a, .int .i64 n, .string ⟨List.toArray [121, 101, 97, 114]⟩] W fun e w' => e = .returned (.tuple #[.int .i64 (addC a n 6).1, .int .i64 (addC a n 6).2]) ∧ Below W.heap.size W w') := fun n W => rAdd_mon6 a n hv W
  have HERR : Hid (∀ n, (addC a n 6).2 = 0 ∨ (addC a n 6).2 = 7) := by
    intro n
    rw [add_mon (by decide)]
    split
    · exact .inl rfl
    · exact .inr rfl
  have HD1 := Lib.hid (fun W => rdate_any a (by omega) (by omega) W)
  have HD2 := Lib.hid (fun W => rdate_any b (by omega) (by omega) W)
  obtain ⟨oa, ta, ya⟩ := valid_date hv
  obtain ⟨ob, tb, yb⟩ := valid_date hv2
  have p1 := oa.date.y1; have p2 := oa.date.m1; have p3 := oa.date.m12
  have p4 := ob.date.y1; have p5 := ob.date.m1; have p6 := ob.date.m12
  have hix := ix_le oa ob (by omega)
  obtain ⟨N, hNe⟩ : ∃ N, (dateC b).y - (dateC a).y = N := ⟨_, rfl⟩
  have hdown := bet_down (a := a) (b := b) (u := 6) (N := N) (by decide) (by decide) hv hv2 hab (by rw [show monU 6 = 12 by decide]; unfold DT.ix at hix ⊢; omega)
  obtain ⟨hd1, hd2, hd3, hd4⟩ := hdown
  have HDN := Lib.hid hd4
  unfold DT.ix at hix
  clear hd4 oa ob ta tb hv hv2
  generalize betC a b 6 = B at *
  generalize dateC a = D1 at *
  generalize dateC b = D2 at *
  obtain ⟨y1, m1, d1, h1, mi1, s1⟩ := D1
  obtain ⟨y2, m2, d2, h2, mi2, s2⟩ := D2
  simp only [DT.v] at *
  go_enter Tryd.func35, Tryd.ntmps35
  go_wp2_with (first | (go_at_call_of 44 (Value.int .i64 a); refine (HV.out _).mono ?_; rintro e w1 ⟨rfl, rfl⟩) | (go_at_call_of 44 (Value.int .i64 b); refine (HV2.out _).mono ?_; rintro e w1 ⟨rfl, rfl⟩) | (go_at_call 68; refine (HU.out _).mono ?_; rintro e w1 ⟨rfl, rfl⟩) | (go_at_call_of 54 a; refine (HD1.out _).mono ?_; rintro e w1 ⟨rfl, hb1⟩) | (go_at_call_of 54 b; refine (HD2.out _).mono ?_; rintro e w2 ⟨rfl, hb2⟩; obtain ⟨c0, c1, c2, c3, c4, c5⟩ := cells6_new w2 (.int .i64 y1) (.int .i64 m1) (.int .i64 d1) (.int .i64 h1) (.int .i64 mi1) (.int .i64 s1) 30; have hbx := below_alloc1 (w2.alloc (.cells #[.int .i64 y1, .int .i64 m1, .int .i64 d1, .int .i64 h1, .int .i64 mi1, .int .i64 s1] 30)) (.cells #[.int .i64 y2, .int .i64 m2, .int .i64 d2, .int .i64 h2, .int .i64 mi2, .int .i64 s2] 30); obtain ⟨f0, f1, f2, f3, f4, f5⟩ := cells6_step hbx c0 c1 c2 c3 c4 c5; obtain ⟨g0, g1, g2, g3, g4, g5⟩ := cells6_new (w2.alloc (.cells #[.int .i64 y1, .int .i64 m1, .int .i64 d1, .int .i64 h1, .int .i64 mi1, .int .i64 s1] 30)) (.int .i64 y2) (.int .i64 m2) (.int .i64 d2) (.int .i64 h2) (.int .i64 mi2) (.int .i64 s2) 30; have hbb := hb1.trans (hb2.mono hb1.size); have hbc := hbb.alloc hbb.size (.cells #[.int .i64 y1, .int .i64 m1, .int .i64 d1, .int .i64 h1, .int .i64 mi1, .int .i64 s1] 30); have HBF := Lib.hid (hbc.alloc hbc.size (.cells #[.int .i64 y2, .int .i64 m2, .int .i64 d2, .int .i64 h2, .int .i64 mi2, .int .i64 s2] 30)); clear hb1 hb2 hbb hbc hbx c0 c1 c2 c3 c4 c5))
  go_loopw [14, 15, 16] (fun v14 v15 v16 wr => ∃ n : Int, v14 = .int .i64 n ∧ B ≤ n ∧ n ≤ N ∧ Hid (Below w.heap.size w wr)) (fun v14 _ _ _ => (intOf v14 - B).toNat)
  case atStart => exact ⟨N, by go_num, hd2, Int.le_refl _, HBF⟩
  case round =>
    obtain ⟨n, rfl, hn1, hn2, HBR⟩ := hrel
    have HAN := Lib.hid (HADD.out n)
    have hcase := HDN.out n hn1 hn2
    have herr := HERR.out n
    generalize addC a n 6 = R at *
    obtain ⟨r, e⟩ := R
    simp only at hcase herr
    by_cases h0 : 0 < n
    · rcases hcase with ⟨rfl, rfl, hle⟩ | ⟨hlt, hor⟩
      · clear herr
        go_wp2_with (go_at_call 34; refine (HAN.out _).mono ?_; rintro e w3 ⟨rfl, hb3⟩)
        go_ret2
        exact ⟨by first | done | rfl, HBR.out.trans (hb3.mono HBR.out.size)⟩
      · rcases herr with rfl | rfl
        · have hgt : b < r := by rcases hor with h | h; exact absurd rfl h; exact h
          clear hor
          go_wp2_with (go_at_call 34; refine (HAN.out _).mono ?_; rintro e w3 ⟨rfl, hb3⟩)
          go_roundw
          case rel => exact ⟨n - 1, by go_num, by omega, by omega, Lib.hid (HBR.out.trans (hb3.mono HBR.out.size))⟩
          case measure => simp [intOf]; omega
        · clear hor
          go_wp2_with (go_at_call 34; refine (HAN.out _).mono ?_; rintro e w3 ⟨rfl, hb3⟩)
          go_roundw
          case rel => exact ⟨n - 1, by go_num, by omega, by omega, Lib.hid (HBR.out.trans (hb3.mono HBR.out.size))⟩
          case measure => simp [intOf]; omega
    · obtain rfl : n = 0 := by omega
      obtain rfl : B = 0 := by omega
      clear hcase herr
      go_wp2_with fail
      go_ret2
      exact ⟨by first | done | rfl, HBR.out⟩
set_option maxRecDepth 100000 in
set_option maxHeartbeats 1600000 in
theorem rBet_le (a b : Int) (s : Bs) (u : Nat) (hu : unitC s = some u) (hv : validI a = true) (hv2 : validI b = true) (hab : a ≤ b) (w : World) :
    Calls Tryd.prog 35 #[.int .i64 a, .int .i64 b, .string ⟨s.toArray⟩] w fun e w' => e = .returned (.tuple #[.int .i64 (betC a b u), .int .i64 0]) ∧ Below w.heap.size w w' := by
  rcases sec_cases (unitC_le hu) with hs | ⟨hs, hm⟩
  · exact rBet_secs a b s u hu hs hv hv2 hab w
  · have hn := unitC_name hu
    have h56 : u = 5 ∨ u = 6 := by
      have := unitC_le hu
      rcases (show u = 0 ∨ u = 1 ∨ u = 2 ∨ u = 3 ∨ u = 4 ∨ u = 5 ∨ u = 6 by omega) with rfl | rfl | rfl | rfl | rfl | rfl | rfl <;> simp [secU] at hs <;> omega
    rcases h56 with rfl | rfl
    · rw [hn.1 rfl]; exact rBet_mon5 a b hv hv2 hab w
    · rw [hn.2 rfl]; exact rBet_mon6 a b hv hv2 hab w
set_option maxRecDepth 100000 in
set_option maxHeartbeats 1600000 in
theorem rBetween_any (a b : Int) (s : Bs) (w : World) :
    Calls Tryd.prog 35 #[.int .i64 a, .int .i64 b, .string ⟨s.toArray⟩] w fun e w' => e = .returned (.tuple #[.int .i64 (betR a b s).1, .int .i64 (betR a b s).2]) ∧ Below w.heap.size w w' := by
  by_cases hv : validI a = true
  · by_cases hv2 : validI b = true
    · cases hu : unitC s with
      | some u =>
        have hR : betR a b s = (if a ≤ b then betC a b u else -(betC b a u), 0) := by unfold betR; rw [if_pos ⟨hv, hv2⟩, hu]
        rw [hR]
        by_cases hab : a ≤ b
        · rw [if_pos hab]; exact rBet_le a b s u hu hv hv2 hab w
        · rw [if_neg hab]
          have HV := Lib.hid (fun W => rright_any a W)
          have HV2 := Lib.hid (fun W => rright_any b W)
          have HU := Lib.hid (fun W => runit_any s W)
          have HREC := Lib.hid (fun W => rBet_le b a s u hu hv2 hv (by omega) W)
          have hb := bet_law (unitC_le hu) hv2 hv (show b ≤ a by omega)
          have hb1 := hb.1
          have hb2 := hb.2.1
          have hr : ruC s = (secU u, true) := by unfold ruC; rw [hu]
          rw [hv] at HV
          rw [hv2] at HV2
          rw [hr] at HU
          generalize betC b a u = q at *
          generalize secU u = x at *
          clear hb hr hu hv hv2 hR
          go_enter Tryd.func35, Tryd.ntmps35
          go_wp2_with (first | (go_at_call_of 44 (Value.int .i64 a); refine (HV.out _).mono ?_; rintro e w1 ⟨rfl, rfl⟩) | (go_at_call_of 44 (Value.int .i64 b); refine (HV2.out _).mono ?_; rintro e w1 ⟨rfl, rfl⟩) | (go_at_call 68; refine (HU.out _).mono ?_; rintro e w1 ⟨rfl, rfl⟩) | (go_at_call 35; refine (HREC.out _).mono ?_; rintro e w1 ⟨rfl, hbx⟩))
          go_ret2
          exact ⟨by first | done | rfl, hbx⟩
      | none =>
        have hR : betR a b s = (0, 5) := by unfold betR; rw [if_pos ⟨hv, hv2⟩, hu]
        rw [hR]
        exact rBet_err a b s 5 (.inr (.inr ⟨hv, hv2, hu, rfl⟩)) w
    · have hR : betR a b s = (0, 7) := by unfold betR; rw [if_neg (fun h => hv2 h.2)]
      rw [hR]
      exact rBet_err a b s 7 (.inr (.inl ⟨hv, by simpa using hv2, rfl⟩)) w
  · have hR : betR a b s = (0, 7) := by unfold betR; rw [if_neg (fun h => hv h.1)]
    rw [hR]
    exact rBet_err a b s 7 (.inl ⟨by simpa using hv, rfl⟩) w
end Go.Proofs.YtmidphmniikdpaaDoor
