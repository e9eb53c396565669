/- Contracts of the units: Between. -/
import Derived.Test.YtmidphmniikdpaaDoorCAdd4
import Derived.Test.YtmidphmniikdpaaDoorCDatesW
import Derived.Deep.RegionWith
namespace Go.Proofs.YtmidphmniikdpaaDoor
set_option linter.unusedVariables false
set_option linter.unusedSimpArgs false
open Go.RowKit

set_option maxRecDepth 100000 in
set_option maxHeartbeats 1600000 in
theorem bet_secs (a b : Int) (s : Bs) (u : Nat) (hu : unitC s = some u) (hs : secU u = 1 ∨ secU u = 60 ∨ secU u = 3600 ∨ secU u = 86400 ∨ secU u = 604800) (hv : validI a = true) (hv2 : validI b = true) (hab : a ≤ b) (w : World) :
    Calls Tryd.prog 33 #[.int .i64 a, .int .i64 b, .string ⟨s.toArray⟩] w fun e w' => e = .returned (.tuple #[.int .i64 ((betC a b u)), .int .i64 0]) ∧ Below w.heap.size w w' := by
  have h1 := (validI_iff a).1 hv
  have h2 := (validI_iff b).1 hv2
  have HK := Lib.hid (fun b1 cap W hc hc2 => asked2 s a b b1 cap W hc hc2)
  rw [askedC_two, if_pos ⟨hv, hv2⟩, hu] at HK
  have HB := Lib.hid (below_alloc1 w (.cells #[.int .i64 a, .int .i64 b] 3))
  have hc1 := cells2_new w (.int .i64 a) (.int .i64 b) 3
  have HS := Lib.hid (fun W => seconds_any u (unitC_le hu) W)
  have hR : betC a b u = (b - a) / secU u := by unfold betC; rw [if_pos (by omega)]
  have hq : (b - a).tdiv (secU u) = (b - a) / secU u := Int.tdiv_eq_ediv_of_nonneg (by omega)
  have hqb : 0 ≤ (b - a) / secU u ∧ (b - a) / secU u ≤ 400000000000 := by rcases hs with h | h | h | h | h <;> rw [h] <;> omega
  have hsb : 0 < secU u ∧ secU u ≤ 604800 := by omega
  rw [hR]
  clear hs hv hv2 hu hR
  generalize secU u = x at *
  generalize (b - a) / x = q at *
  have hsn : (x == 0) = false := beq_eq_false_iff_ne.2 (by omega)
  have hs0 : ¬ x = 0 := by omega
  go_enter Tryd.func33, Tryd.ntmps33
  go_wp2_with (first | (go_at_call 64; refine (HK.out _ _ _ ?_ ?_).mono ?_; exact hc1.1; exact hc1.2; rintro e w1 ⟨rfl, rfl⟩) | (go_at_call 66; refine (HS.out _).mono ?_; rintro e w1 ⟨rfl, rfl⟩))
  go_ret2
  exact ⟨by first | done | rfl | simp, HB.out⟩
set_option maxRecDepth 100000 in
set_option maxHeartbeats 1600000 in
theorem bet_secs_back (a b : Int) (s : Bs) (u : Nat) (hu : unitC s = some u) (hs : secU u = 1 ∨ secU u = 60 ∨ secU u = 3600 ∨ secU u = 86400 ∨ secU u = 604800) (hv : validI a = true) (hv2 : validI b = true) (hab : b < a) (w : World) :
    Calls Tryd.prog 33 #[.int .i64 a, .int .i64 b, .string ⟨s.toArray⟩] w fun e w' => e = .returned (.tuple #[.int .i64 (-(betC b a u)), .int .i64 0]) ∧ Below w.heap.size w w' := by
  have h1 := (validI_iff a).1 hv
  have h2 := (validI_iff b).1 hv2
  have HK := Lib.hid (fun b1 cap W hc hc2 => asked2 s a b b1 cap W hc hc2)
  rw [askedC_two, if_pos ⟨hv, hv2⟩, hu] at HK
  have HB := Lib.hid (below_alloc1 w (.cells #[.int .i64 a, .int .i64 b] 3))
  have hc1 := cells2_new w (.int .i64 a) (.int .i64 b) 3
  have HS := Lib.hid (fun W => seconds_any u (unitC_le hu) W)
  have hR : betC b a u = (a - b) / secU u := by unfold betC; rw [if_pos (by omega)]
  have hq : (a - b).tdiv (secU u) = (a - b) / secU u := Int.tdiv_eq_ediv_of_nonneg (by omega)
  have hqb : 0 ≤ (a - b) / secU u ∧ (a - b) / secU u ≤ 400000000000 := by rcases hs with h | h | h | h | h <;> rw [h] <;> omega
  have hsb : 0 < secU u ∧ secU u ≤ 604800 := by omega
  rw [hR]
  clear hs hv hv2 hu hR
  generalize secU u = x at *
  generalize (a - b) / x = q at *
  have hsn : (x == 0) = false := beq_eq_false_iff_ne.2 (by omega)
  have hs0 : ¬ x = 0 := by omega
  go_enter Tryd.func33, Tryd.ntmps33
  go_wp2_with (first | (go_at_call 64; refine (HK.out _ _ _ ?_ ?_).mono ?_; exact hc1.1; exact hc1.2; rintro e w1 ⟨rfl, rfl⟩) | (go_at_call 66; refine (HS.out _).mono ?_; rintro e w1 ⟨rfl, rfl⟩))
  go_ret2
  exact ⟨by first | done | rfl | simp, HB.out⟩
set_option maxRecDepth 100000 in
set_option maxHeartbeats 3200000 in
theorem bet_mons (a b : Int) (s : Bs) (u : Nat) (hu : unitC s = some u) (hs : secU u = 0) (hm : monU u = 1 ∨ monU u = 12) (hv : validI a = true) (hv2 : validI b = true) (hab : a ≤ b) (w : World) :
    Calls Tryd.prog 33 #[.int .i64 a, .int .i64 b, .string ⟨s.toArray⟩] w fun e w' => e = .returned (.tuple #[.int .i64 ((betC a b u)), .int .i64 0]) ∧ Below w.heap.size w w' := by
  have HK := Lib.hid (fun b1 cap W hc hc2 => asked2 s a b b1 cap W hc hc2)
  rw [askedC_two, if_pos ⟨hv, hv2⟩, hu] at HK
  have HB := Lib.hid (below_alloc1 w (.cells #[.int .i64 a, .int .i64 b] 3))
  have hc1 := cells2_new w (.int .i64 a) (.int .i64 b) 3
  have HS := Lib.hid (fun W => seconds_any u (unitC_le hu) W)
  rw [hs] at HS
  have HMO := Lib.hid (fun W => months_u u (unitC_le hu) W)
  obtain ⟨n0, hn0, hn1, hn2, he0, hback, -⟩ := bet_mon hs hm hv hv2 (show a ≤ b by omega)
  have hbet : betC a b u = if (addC a n0 u).1 ≤ b then n0 else n0 - 1 := by unfold betC; rw [if_neg (by omega), hn0]
  have HA := Lib.hid (fun W => add_any a n0 u (unitC_le hu) hv W)
  have HA2 := Lib.hid (fun W => add_any a (n0 - 1) u (unitC_le hu) hv W)
  have h1 := (validI_iff a).1 hv
  have h2 := (validI_iff b).1 hv2
  have HD1 := Lib.hid (fun W => date_any a (by omega) (by omega) W)
  have HD2 := Lib.hid (fun W => date_any b (by omega) (by omega) W)
  obtain ⟨oa, ta, ya⟩ := valid_date hv
  obtain ⟨ob, tb, yb⟩ := valid_date hv2
  have p1 := oa.date.y1; have p2 := oa.date.m1; have p3 := oa.date.m12
  have p4 := ob.date.y1; have p5 := ob.date.m1; have p6 := ob.date.m12
  have hix := ix_le oa ob (by omega)
  unfold DT.ix at hn0 hix
  generalize addC a n0 u = R at *
  generalize addC a (n0 - 1) u = R1 at *
  generalize betC a b u = BR at *
  obtain ⟨n1, hn1e⟩ : ∃ n1, n0 - 1 = n1 := ⟨_, rfl⟩
  rw [hn1e] at hbet HA2
  have hmn : (monU u == 0) = false := beq_eq_false_iff_ne.2 (by omega)
  have hm0 : ¬ monU u = 0 := by omega
  have hmb : 1 ≤ monU u ∧ monU u ≤ 12 := by omega
  generalize monU u = mo at *
  clear hs hm hu hv hv2 oa ob ta tb
  generalize dateC a = D1 at *
  generalize dateC b = D2 at *
  obtain ⟨y1, m1, d1, h1, mi1, s1⟩ := D1
  obtain ⟨y2, m2, d2, h2, mi2, s2⟩ := D2
  simp only [DT.v] at *
  obtain ⟨x, hx⟩ : ∃ x, 12 * (y2 - y1) + m2 - m1 = x := ⟨_, rfl⟩
  have hxb : 0 ≤ x ∧ x ≤ 120000 := by omega
  rw [show 12 * y2 + m2 - 1 - (12 * y1 + m1 - 1) = x by omega] at hn0
  have hq : x.tdiv mo = n0 := by rw [Int.tdiv_eq_ediv_of_nonneg hxb.1, hn0]
  have hwm : IntKind.i64.wrap mo = mo := by simp [IntKind.wrap, IntKind.bits, IntKind.signed]; omega
  have hwx : IntKind.i64.wrap x = x := by simp [IntKind.wrap, IntKind.bits, IntKind.signed]; omega
  have hwn : IntKind.i64.wrap n0 = n0 := by simp [IntKind.wrap, IntKind.bits, IntKind.signed]; omega
  obtain ⟨r, e⟩ := R
  simp only at he0 hback hbet
  obtain rfl : e = 0 := he0
  obtain ⟨r1, e1⟩ := R1
  simp only at hback
  clear hn0 hix
  by_cases hle : r ≤ b
  · rw [if_pos hle] at hbet
    have HR := Lib.hid hbet
    clear hbet hback HA2 hn1e
    go_enter Tryd.func33, Tryd.ntmps33
    go_wp2_with (first | (go_at_call 64; refine (HK.out _ _ _ ?_ ?_).mono ?_; exact hc1.1; exact hc1.2; rintro e w1 ⟨rfl, rfl⟩) | (go_at_call 66; refine (HS.out _).mono ?_; rintro e w1 ⟨rfl, rfl⟩) | (go_at_call_of 53 a; refine (HD1.out _).mono ?_; rintro e w1 ⟨rfl, hb1⟩) | (go_at_call_of 53 b; refine (HD2.out _).mono ?_; rintro e w2 ⟨rfl, hb2⟩; obtain ⟨c0, c1, c2, c3, c4, c5⟩ := cells6_new w2 (.int .i64 y1) (.int .i64 m1) (.int .i64 d1) (.int .i64 h1) (.int .i64 mi1) (.int .i64 s1) 30; have hbx := below_alloc1 (w2.alloc (.cells #[.int .i64 y1, .int .i64 m1, .int .i64 d1, .int .i64 h1, .int .i64 mi1, .int .i64 s1] 30)) (.cells #[.int .i64 y2, .int .i64 m2, .int .i64 d2, .int .i64 h2, .int .i64 mi2, .int .i64 s2] 30); obtain ⟨f0, f1, f2, f3, f4, f5⟩ := cells6_step hbx c0 c1 c2 c3 c4 c5; obtain ⟨g0, g1, g2, g3, g4, g5⟩ := cells6_new (w2.alloc (.cells #[.int .i64 y1, .int .i64 m1, .int .i64 d1, .int .i64 h1, .int .i64 mi1, .int .i64 s1] 30)) (.int .i64 y2) (.int .i64 m2) (.int .i64 d2) (.int .i64 h2) (.int .i64 mi2) (.int .i64 s2) 30; have hba := HB.out.trans (hb1.mono HB.out.size); have hbb := hba.trans (hb2.mono hba.size); have hbc := hbb.alloc hbb.size (.cells #[.int .i64 y1, .int .i64 m1, .int .i64 d1, .int .i64 h1, .int .i64 mi1, .int .i64 s1] 30); have HBF := Lib.hid (hbc.alloc hbc.size (.cells #[.int .i64 y2, .int .i64 m2, .int .i64 d2, .int .i64 h2, .int .i64 mi2, .int .i64 s2] 30)); clear hb1 hb2 hba hbb hbc hbx c0 c1 c2 c3 c4 c5))
    go_quiet ((go_at_call 67; exact Calls.quiet_of_same ((HMO.out _).mono fun e w' h => ⟨h.1, h.2.symm⟩)))
    go_wp2_with fail
    replace HBF := Lib.hid (below_drewN HBF.out nq)
    go_loopw [14, 15, 16] (fun v14 v15 v16 wr => v14 = .int .i64 n0 ∧ Hid (Below w.heap.size w wr)) (fun _ _ _ _ => 0)
    case atStart => exact ⟨by go_num, HBF⟩
    case round =>
      obtain ⟨rfl, HBR⟩ := hrel
      go_wp2_with (go_at_call 65; refine (HA.out _).mono ?_; rintro e w3 ⟨rfl, hb3⟩)
      go_ret2
      exact ⟨by rw [HR.out]; first | done | rfl | simp, HBR.out.trans (hb3.mono HBR.out.size)⟩
  · rw [if_neg hle] at hbet
    have HR := Lib.hid hbet
    obtain ⟨hn01, he1, hle1⟩ := hback (by omega)
    subst he1
    have hwn1 : IntKind.i64.wrap n1 = n1 := by simp [IntKind.wrap, IntKind.bits, IntKind.signed]; omega
    clear hbet hback
    go_enter Tryd.func33, Tryd.ntmps33
    go_wp2_with (first | (go_at_call 64; refine (HK.out _ _ _ ?_ ?_).mono ?_; exact hc1.1; exact hc1.2; rintro e w1 ⟨rfl, rfl⟩) | (go_at_call 66; refine (HS.out _).mono ?_; rintro e w1 ⟨rfl, rfl⟩) | (go_at_call_of 53 a; refine (HD1.out _).mono ?_; rintro e w1 ⟨rfl, hb1⟩) | (go_at_call_of 53 b; refine (HD2.out _).mono ?_; rintro e w2 ⟨rfl, hb2⟩; obtain ⟨c0, c1, c2, c3, c4, c5⟩ := cells6_new w2 (.int .i64 y1) (.int .i64 m1) (.int .i64 d1) (.int .i64 h1) (.int .i64 mi1) (.int .i64 s1) 30; have hbx := below_alloc1 (w2.alloc (.cells #[.int .i64 y1, .int .i64 m1, .int .i64 d1, .int .i64 h1, .int .i64 mi1, .int .i64 s1] 30)) (.cells #[.int .i64 y2, .int .i64 m2, .int .i64 d2, .int .i64 h2, .int .i64 mi2, .int .i64 s2] 30); obtain ⟨f0, f1, f2, f3, f4, f5⟩ := cells6_step hbx c0 c1 c2 c3 c4 c5; obtain ⟨g0, g1, g2, g3, g4, g5⟩ := cells6_new (w2.alloc (.cells #[.int .i64 y1, .int .i64 m1, .int .i64 d1, .int .i64 h1, .int .i64 mi1, .int .i64 s1] 30)) (.int .i64 y2) (.int .i64 m2) (.int .i64 d2) (.int .i64 h2) (.int .i64 mi2) (.int .i64 s2) 30; have hba := HB.out.trans (hb1.mono HB.out.size); have hbb := hba.trans (hb2.mono hba.size); have hbc := hbb.alloc hbb.size (.cells #[.int .i64 y1, .int .i64 m1, .int .i64 d1, .int .i64 h1, .int .i64 mi1, .int .i64 s1] 30); have HBF := Lib.hid (hbc.alloc hbc.size (.cells #[.int .i64 y2, .int .i64 m2, .int .i64 d2, .int .i64 h2, .int .i64 mi2, .int .i64 s2] 30)); clear hb1 hb2 hba hbb hbc hbx c0 c1 c2 c3 c4 c5))
    go_quiet ((go_at_call 67; exact Calls.quiet_of_same ((HMO.out _).mono fun e w' h => ⟨h.1, h.2.symm⟩)))
    go_wp2_with fail
    replace HBF := Lib.hid (below_drewN HBF.out nq)
    go_loopw [14, 15, 16] (fun v14 v15 v16 wr => ∃ n : Int, v14 = .int .i64 n ∧ (n = n0 ∨ n = n1) ∧ Hid (Below w.heap.size w wr)) (fun v14 _ _ _ => (intOf v14 - n1).toNat)
    case atStart => exact ⟨n0, by go_num, .inl rfl, HBF⟩
    case round =>
      obtain ⟨n, rfl, hn, HBR⟩ := hrel
      rcases hn with rfl | rfl
      · go_wp2_with (go_at_call 65; refine (HA.out _).mono ?_; rintro e w3 ⟨rfl, hb3⟩)
        go_roundw
        case rel => exact ⟨n1, by go_num, .inr rfl, Lib.hid (HBR.out.trans (hb3.mono HBR.out.size))⟩
        case measure => simp [intOf]; omega
      · go_wp2_with (go_at_call 65; refine (HA2.out _).mono ?_; rintro e w3 ⟨rfl, hb3⟩)
        go_ret2
        exact ⟨by rw [HR.out]; first | done | rfl | simp, HBR.out.trans (hb3.mono HBR.out.size)⟩
set_option maxRecDepth 100000 in
set_option maxHeartbeats 3200000 in
theorem bet_mons_back (a b : Int) (s : Bs) (u : Nat) (hu : unitC s = some u) (hs : secU u = 0) (hm : monU u = 1 ∨ monU u = 12) (hv : validI a = true) (hv2 : validI b = true) (hab : b < a) (w : World) :
    Calls Tryd.prog 33 #[.int .i64 a, .int .i64 b, .string ⟨s.toArray⟩] w fun e w' => e = .returned (.tuple #[.int .i64 (-(betC b a u)), .int .i64 0]) ∧ Below w.heap.size w w' := by
  have HK := Lib.hid (fun b1 cap W hc hc2 => asked2 s a b b1 cap W hc hc2)
  rw [askedC_two, if_pos ⟨hv, hv2⟩, hu] at HK
  have HB := Lib.hid (below_alloc1 w (.cells #[.int .i64 a, .int .i64 b] 3))
  have hc1 := cells2_new w (.int .i64 a) (.int .i64 b) 3
  have HS := Lib.hid (fun W => seconds_any u (unitC_le hu) W)
  rw [hs] at HS
  have HMO := Lib.hid (fun W => months_u u (unitC_le hu) W)
  obtain ⟨n0, hn0, hn1, hn2, he0, hback, -⟩ := bet_mon hs hm hv2 hv (show b ≤ a by omega)
  have hbet : betC b a u = if (addC b n0 u).1 ≤ a then n0 else n0 - 1 := by unfold betC; rw [if_neg (by omega), hn0]
  have HA := Lib.hid (fun W => add_any b n0 u (unitC_le hu) hv2 W)
  have HA2 := Lib.hid (fun W => add_any b (n0 - 1) u (unitC_le hu) hv2 W)
  have h1 := (validI_iff a).1 hv
  have h2 := (validI_iff b).1 hv2
  have HD1 := Lib.hid (fun W => date_any b (by omega) (by omega) W)
  have HD2 := Lib.hid (fun W => date_any a (by omega) (by omega) W)
  obtain ⟨oa, ta, ya⟩ := valid_date hv2
  obtain ⟨ob, tb, yb⟩ := valid_date hv
  have p1 := oa.date.y1; have p2 := oa.date.m1; have p3 := oa.date.m12
  have p4 := ob.date.y1; have p5 := ob.date.m1; have p6 := ob.date.m12
  have hix := ix_le oa ob (by omega)
  unfold DT.ix at hn0 hix
  generalize addC b n0 u = R at *
  generalize addC b (n0 - 1) u = R1 at *
  generalize betC b a u = BR at *
  obtain ⟨n1, hn1e⟩ : ∃ n1, n0 - 1 = n1 := ⟨_, rfl⟩
  rw [hn1e] at hbet HA2
  have hmn : (monU u == 0) = false := beq_eq_false_iff_ne.2 (by omega)
  have hm0 : ¬ monU u = 0 := by omega
  have hmb : 1 ≤ monU u ∧ monU u ≤ 12 := by omega
  generalize monU u = mo at *
  clear hs hm hu hv hv2 oa ob ta tb
  generalize dateC b = D1 at *
  generalize dateC a = D2 at *
  obtain ⟨y1, m1, d1, h1, mi1, s1⟩ := D1
  obtain ⟨y2, m2, d2, h2, mi2, s2⟩ := D2
  simp only [DT.v] at *
  obtain ⟨x, hx⟩ : ∃ x, 12 * (y2 - y1) + m2 - m1 = x := ⟨_, rfl⟩
  have hxb : 0 ≤ x ∧ x ≤ 120000 := by omega
  rw [show 12 * y2 + m2 - 1 - (12 * y1 + m1 - 1) = x by omega] at hn0
  have hq : x.tdiv mo = n0 := by rw [Int.tdiv_eq_ediv_of_nonneg hxb.1, hn0]
  have hwm : IntKind.i64.wrap mo = mo := by simp [IntKind.wrap, IntKind.bits, IntKind.signed]; omega
  have hwx : IntKind.i64.wrap x = x := by simp [IntKind.wrap, IntKind.bits, IntKind.signed]; omega
  have hwn : IntKind.i64.wrap n0 = n0 := by simp [IntKind.wrap, IntKind.bits, IntKind.signed]; omega
  obtain ⟨r, e⟩ := R
  simp only at he0 hback hbet
  obtain rfl : e = 0 := he0
  obtain ⟨r1, e1⟩ := R1
  simp only at hback
  clear hn0 hix
  by_cases hle : r ≤ a
  · rw [if_pos hle] at hbet
    have HR := Lib.hid hbet
    clear hbet hback HA2 hn1e
    go_enter Tryd.func33, Tryd.ntmps33
    go_wp2_with (first | (go_at_call 64; refine (HK.out _ _ _ ?_ ?_).mono ?_; exact hc1.1; exact hc1.2; rintro e w1 ⟨rfl, rfl⟩) | (go_at_call 66; refine (HS.out _).mono ?_; rintro e w1 ⟨rfl, rfl⟩) | (go_at_call_of 53 b; refine (HD1.out _).mono ?_; rintro e w1 ⟨rfl, hb1⟩) | (go_at_call_of 53 a; refine (HD2.out _).mono ?_; rintro e w2 ⟨rfl, hb2⟩; obtain ⟨c0, c1, c2, c3, c4, c5⟩ := cells6_new w2 (.int .i64 y1) (.int .i64 m1) (.int .i64 d1) (.int .i64 h1) (.int .i64 mi1) (.int .i64 s1) 30; have hbx := below_alloc1 (w2.alloc (.cells #[.int .i64 y1, .int .i64 m1, .int .i64 d1, .int .i64 h1, .int .i64 mi1, .int .i64 s1] 30)) (.cells #[.int .i64 y2, .int .i64 m2, .int .i64 d2, .int .i64 h2, .int .i64 mi2, .int .i64 s2] 30); obtain ⟨f0, f1, f2, f3, f4, f5⟩ := cells6_step hbx c0 c1 c2 c3 c4 c5; obtain ⟨g0, g1, g2, g3, g4, g5⟩ := cells6_new (w2.alloc (.cells #[.int .i64 y1, .int .i64 m1, .int .i64 d1, .int .i64 h1, .int .i64 mi1, .int .i64 s1] 30)) (.int .i64 y2) (.int .i64 m2) (.int .i64 d2) (.int .i64 h2) (.int .i64 mi2) (.int .i64 s2) 30; have hba := HB.out.trans (hb1.mono HB.out.size); have hbb := hba.trans (hb2.mono hba.size); have hbc := hbb.alloc hbb.size (.cells #[.int .i64 y1, .int .i64 m1, .int .i64 d1, .int .i64 h1, .int .i64 mi1, .int .i64 s1] 30); have HBF := Lib.hid (hbc.alloc hbc.size (.cells #[.int .i64 y2, .int .i64 m2, .int .i64 d2, .int .i64 h2, .int .i64 mi2, .int .i64 s2] 30)); clear hb1 hb2 hba hbb hbc hbx c0 c1 c2 c3 c4 c5))
    go_quiet ((go_at_call 67; exact Calls.quiet_of_same ((HMO.out _).mono fun e w' h => ⟨h.1, h.2.symm⟩)))
    go_wp2_with fail
    replace HBF := Lib.hid (below_drewN HBF.out nq)
    go_loopw [14, 15, 16] (fun v14 v15 v16 wr => v14 = .int .i64 n0 ∧ Hid (Below w.heap.size w wr)) (fun _ _ _ _ => 0)
    case atStart => exact ⟨by go_num, HBF⟩
    case round =>
      obtain ⟨rfl, HBR⟩ := hrel
      go_wp2_with (go_at_call 65; refine (HA.out _).mono ?_; rintro e w3 ⟨rfl, hb3⟩)
      go_ret2
      exact ⟨by rw [HR.out]; first | done | rfl | simp, HBR.out.trans (hb3.mono HBR.out.size)⟩
  · rw [if_neg hle] at hbet
    have HR := Lib.hid hbet
    obtain ⟨hn01, he1, hle1⟩ := hback (by omega)
    subst he1
    have hwn1 : IntKind.i64.wrap n1 = n1 := by simp [IntKind.wrap, IntKind.bits, IntKind.signed]; omega
    clear hbet hback
    go_enter Tryd.func33, Tryd.ntmps33
    go_wp2_with (first | (go_at_call 64; refine (HK.out _ _ _ ?_ ?_).mono ?_; exact hc1.1; exact hc1.2; rintro e w1 ⟨rfl, rfl⟩) | (go_at_call 66; refine (HS.out _).mono ?_; rintro e w1 ⟨rfl, rfl⟩) | (go_at_call_of 53 b; refine (HD1.out _).mono ?_; rintro e w1 ⟨rfl, hb1⟩) | (go_at_call_of 53 a; refine (HD2.out _).mono ?_; rintro e w2 ⟨rfl, hb2⟩; obtain ⟨c0, c1, c2, c3, c4, c5⟩ := cells6_new w2 (.int .i64 y1) (.int .i64 m1) (.int .i64 d1) (.int .i64 h1) (.int .i64 mi1) (.int .i64 s1) 30; have hbx := below_alloc1 (w2.alloc (.cells #[.int .i64 y1, .int .i64 m1, .int .i64 d1, .int .i64 h1, .int .i64 mi1, .int .i64 s1] 30)) (.cells #[.int .i64 y2, .int .i64 m2, .int .i64 d2, .int .i64 h2, .int .i64 mi2, .int .i64 s2] 30); obtain ⟨f0, f1, f2, f3, f4, f5⟩ := cells6_step hbx c0 c1 c2 c3 c4 c5; obtain ⟨g0, g1, g2, g3, g4, g5⟩ := cells6_new (w2.alloc (.cells #[.int .i64 y1, .int .i64 m1, .int .i64 d1, .int .i64 h1, .int .i64 mi1, .int .i64 s1] 30)) (.int .i64 y2) (.int .i64 m2) (.int .i64 d2) (.int .i64 h2) (.int .i64 mi2) (.int .i64 s2) 30; have hba := HB.out.trans (hb1.mono HB.out.size); have hbb := hba.trans (hb2.mono hba.size); have hbc := hbb.alloc hbb.size (.cells #[.int .i64 y1, .int .i64 m1, .int .i64 d1, .int .i64 h1, .int .i64 mi1, .int .i64 s1] 30); have HBF := Lib.hid (hbc.alloc hbc.size (.cells #[.int .i64 y2, .int .i64 m2, .int .i64 d2, .int .i64 h2, .int .i64 mi2, .int .i64 s2] 30)); clear hb1 hb2 hba hbb hbc hbx c0 c1 c2 c3 c4 c5))
    go_quiet ((go_at_call 67; exact Calls.quiet_of_same ((HMO.out _).mono fun e w' h => ⟨h.1, h.2.symm⟩)))
    go_wp2_with fail
    replace HBF := Lib.hid (below_drewN HBF.out nq)
    go_loopw [14, 15, 16] (fun v14 v15 v16 wr => ∃ n : Int, v14 = .int .i64 n ∧ (n = n0 ∨ n = n1) ∧ Hid (Below w.heap.size w wr)) (fun v14 _ _ _ => (intOf v14 - n1).toNat)
    case atStart => exact ⟨n0, by go_num, .inl rfl, HBF⟩
    case round =>
      obtain ⟨n, rfl, hn, HBR⟩ := hrel
      rcases hn with rfl | rfl
      · go_wp2_with (go_at_call 65; refine (HA.out _).mono ?_; rintro e w3 ⟨rfl, hb3⟩)
        go_roundw
        case rel => exact ⟨n1, by go_num, .inr rfl, Lib.hid (HBR.out.trans (hb3.mono HBR.out.size))⟩
        case measure => simp [intOf]; omega
      · go_wp2_with (go_at_call 65; refine (HA2.out _).mono ?_; rintro e w3 ⟨rfl, hb3⟩)
        go_ret2
        exact ⟨by rw [HR.out]; first | done | rfl | simp, HBR.out.trans (hb3.mono HBR.out.size)⟩
set_option maxRecDepth 100000 in
set_option maxHeartbeats 1600000 in
theorem Between_any (a b : Int) (s : Bs) (w : World) :
    Calls Tryd.prog 33 #[.int .i64 a, .int .i64 b, .string ⟨s.toArray⟩] w fun e w' => e = .returned (.tuple #[.int .i64 (betR a b s).1, .int .i64 (betR a b s).2]) ∧ Below w.heap.size w w' := by
  by_cases hv : validI a = true ∧ validI b = true
  · cases hu : unitC s with
    | some u =>
      have hR : betR a b s = (if a ≤ b then betC a b u else -(betC b a u), 0) := by unfold betR; rw [if_pos hv, hu]
      rw [hR]
      by_cases hab : a ≤ b
      · rw [if_pos hab]
        rcases sec_cases (unitC_le hu) with hs | ⟨hs, hm⟩
        · exact bet_secs a b s u hu hs hv.1 hv.2 hab w
        · exact bet_mons a b s u hu hs hm hv.1 hv.2 hab w
      · rw [if_neg hab]
        rcases sec_cases (unitC_le hu) with hs | ⟨hs, hm⟩
        · exact bet_secs_back a b s u hu hs hv.1 hv.2 (by omega) w
        · exact bet_mons_back a b s u hu hs hm hv.1 hv.2 (by omega) w
    | none =>
      have HK := Lib.hid (fun b1 cap W hc hc2 => asked2 s a b b1 cap W hc hc2)
      rw [askedC_two, if_pos hv, hu] at HK
      have HB := Lib.hid (below_alloc1 w (.cells #[.int .i64 a, .int .i64 b] 3))
      have hc1 := cells2_new w (.int .i64 a) (.int .i64 b) 3
      have HR : Hid (betR a b s = (0, 5)) := by show _ = _; unfold betR; rw [if_pos hv, hu]
      clear hv hu
      go_enter Tryd.func33, Tryd.ntmps33
      go_wp2_with (go_at_call 64; refine (HK.out _ _ _ ?_ ?_).mono ?_; exact hc1.1; exact hc1.2; rintro e w1 ⟨rfl, rfl⟩)
      go_ret2
      exact ⟨by rw [HR.out]; first | done | rfl, HB.out⟩
  · have HK := Lib.hid (fun b1 cap W hc hc2 => asked2 s a b b1 cap W hc hc2)
    rw [askedC_two, if_neg hv] at HK
    have HB := Lib.hid (below_alloc1 w (.cells #[.int .i64 a, .int .i64 b] 3))
    have hc1 := cells2_new w (.int .i64 a) (.int .i64 b) 3
    have HR : Hid (betR a b s = (0, 7)) := by show _ = _; unfold betR; rw [if_neg hv]
    clear hv
    go_enter Tryd.func33, Tryd.ntmps33
    go_wp2_with (go_at_call 64; refine (HK.out _ _ _ ?_ ?_).mono ?_; exact hc1.1; exact hc1.2; rintro e w1 ⟨rfl, rfl⟩)
    go_ret2
    exact ⟨by rw [HR.out]; first | done | rfl, HB.out⟩
end Go.Proofs.YtmidphmniikdpaaDoor
