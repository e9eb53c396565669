/- Contracts of what the reference's letters write, second part: names, and letters that are none. -/
import Derived.Test.YtmidphmniikdpaaDoorCRLet2
namespace Go.Proofs.YtmidphmniikdpaaDoor
set_option linter.unusedVariables false
set_option linter.unusedSimpArgs false
open Go.RowKit
attribute [local go_sem] ba_append ba_get ba_extract take_drop_all

theorem short12 : ∀ k : Nat, k < 12 → (monthsL.map (·.take 3)).getD k [] = (monthsL.getD k []).take 3 := by decide
theorem get12 : ∀ k : Nat, k < 12 → monthsL[k]? = some (monthsL.getD k []) := by decide
theorem long12 : ∀ k : Nat, k < 12 → 3 ≤ (monthsL.getD k []).length ∧ (monthsL.getD k []).length ≤ 20 := by decide
theorem short7 : ∀ k : Nat, k < 7 → (weekdaysL.map (·.take 3)).getD k [] = (weekdaysL.getD k []).take 3 := by decide
theorem get7 : ∀ k : Nat, k < 7 → weekdaysL[k]? = some (weekdaysL.getD k []) := by decide
theorem long7 : ∀ k : Nat, k < 7 → 3 ≤ (weekdaysL.getD k []).length ∧ (weekdaysL.getD k []).length ≤ 20 := by decide

set_option maxRecDepth 100000 in
set_option maxHeartbeats 1600000 in
theorem rl_66 (t : Int) (ht : -62135596800 ≤ t) (ht2 : t ≤ 253402300799) (w : World) (hP : PowIs w) :
    Calls Tryd.prog 46 #[.int .i64 t, .int .u8 66] w fun e w' => e = .returned (.tuple #[.string ⟨(textD 66 t).toArray⟩, .bool true]) ∧ Below w.heap.size w w' := by
  have hok := (dateC_ok ht).1
  have q1 := hok.date.m1; have q2 := hok.date.m12
  have HD := Lib.hid (rdate_any t ht (by omega) w)
  obtain ⟨k, hk⟩ : ∃ k : Nat, (dateC t).m = k + 1 := ⟨((dateC t).m - 1).toNat, by omega⟩
  have htx : textD 66 t = monthsL.getD k [] := by
    show monthsL.getD ((dateC t).m - 1).toNat [] = _
    rw [hk, show ((k : Int) + 1 - 1).toNat = k by omega]
  have hk12 : k < 12 := by omega
  have hx : monthsL[k]? = some (monthsL.getD k []) := get12 k hk12
  have hx3 := (long12 k hk12).1
  have hx4 := (long12 k hk12).2
  rw [htx]
  clear htx hok
  generalize monthsL.getD k [] = x at *
  generalize hDD : dateC t = DD at *
  obtain ⟨y, m, d, h, mi, s⟩ := DD
  simp only [DT.v] at *
  have hm1 : m - 1 = (k : Int) := by omega
  have hwr : IntKind.i64.wrap (k : Int) = (k : Int) := by simp [IntKind.wrap, IntKind.bits, IntKind.signed]; omega
  have HX := Lib.hid hx
  have HM := Lib.hid (fun W => rmonths_any W)
  have hk12i : (k : Int) < 12 := by omega
  clear hx hk
  go_enter Tryd.func46, Tryd.ntmps46
  go_wp2_with ((go_at_call 54; refine HD.out.mono ?_; rintro e w1 ⟨rfl, hb1⟩; obtain ⟨c0, c1, c2, c3, c4, c5⟩ := cells6_new w1 (.int .i64 y) (.int .i64 m) (.int .i64 d) (.int .i64 h) (.int .i64 mi) (.int .i64 s) 30; have HB := Lib.hid (hb1.alloc hb1.size (.cells #[.int .i64 y, .int .i64 m, .int .i64 d, .int .i64 h, .int .i64 mi, .int .i64 s] 30))))
  obtain ⟨w2, hw2⟩ : ∃ w2, w1.alloc (.cells #[.int .i64 y, .int .i64 m, .int .i64 d, .int .i64 h, .int .i64 mi, .int .i64 s] 30) = w2 := ⟨_, rfl⟩
  have hs2 : w1.heap.size < w2.heap.size := by rw [← hw2]; simp
  generalize w1.heap.size = B at *
  rw [hw2] at c1 HB ⊢
  clear c0 c2 c3 c4 c5 hw2
  go_region_with (go_at_call 91; refine (HM.out _).mono ?_; rintro e w3 ⟨rfl, hrow, hb3⟩; have c1b := (hb3.cell (p := ⟨B, 1, none⟩) (by simpa using hs2)).trans (by simpa using c1); have hck := hrow k _ HX.out; simp at hck; have HB3 := Lib.hid ((below_drewN HB.out 1).trans (hb3.mono (by simpa using HB.out.size))); clear hrow hb3)
  all_goals (go_wp2_with fail; go_ret2; exact ⟨rfl, HB3.out⟩)

set_option maxRecDepth 100000 in
set_option maxHeartbeats 1600000 in
theorem rl_98 (t : Int) (ht : -62135596800 ≤ t) (ht2 : t ≤ 253402300799) (w : World) (hP : PowIs w) :
    Calls Tryd.prog 46 #[.int .i64 t, .int .u8 98] w fun e w' => e = .returned (.tuple #[.string ⟨(textD 98 t).toArray⟩, .bool true]) ∧ Below w.heap.size w w' := by
  have hok := (dateC_ok ht).1
  have q1 := hok.date.m1; have q2 := hok.date.m12
  have HD := Lib.hid (rdate_any t ht (by omega) w)
  obtain ⟨k, hk⟩ : ∃ k : Nat, (dateC t).m = k + 1 := ⟨((dateC t).m - 1).toNat, by omega⟩
  have htx : textD 98 t = (monthsL.getD k []).take 3 := by
    show (monthsL.map (·.take 3)).getD ((dateC t).m - 1).toNat [] = _
    rw [hk, show ((k : Int) + 1 - 1).toNat = k by omega]
    exact short12 k (by omega)
  have hk12 : k < 12 := by omega
  have hx : monthsL[k]? = some (monthsL.getD k []) := get12 k hk12
  have hx3 := (long12 k hk12).1
  have hx4 := (long12 k hk12).2
  rw [htx]
  clear htx hok
  generalize monthsL.getD k [] = x at *
  generalize hDD : dateC t = DD at *
  obtain ⟨y, m, d, h, mi, s⟩ := DD
  simp only [DT.v] at *
  have hm1 : m - 1 = (k : Int) := by omega
  have hwr : IntKind.i64.wrap (k : Int) = (k : Int) := by simp [IntKind.wrap, IntKind.bits, IntKind.signed]; omega
  have HX := Lib.hid hx
  have HM := Lib.hid (fun W => rmonths_any W)
  have hk12i : (k : Int) < 12 := by omega
  clear hx hk
  go_enter Tryd.func46, Tryd.ntmps46
  go_wp2_with ((go_at_call 54; refine HD.out.mono ?_; rintro e w1 ⟨rfl, hb1⟩; obtain ⟨c0, c1, c2, c3, c4, c5⟩ := cells6_new w1 (.int .i64 y) (.int .i64 m) (.int .i64 d) (.int .i64 h) (.int .i64 mi) (.int .i64 s) 30; have HB := Lib.hid (hb1.alloc hb1.size (.cells #[.int .i64 y, .int .i64 m, .int .i64 d, .int .i64 h, .int .i64 mi, .int .i64 s] 30))))
  obtain ⟨w2, hw2⟩ : ∃ w2, w1.alloc (.cells #[.int .i64 y, .int .i64 m, .int .i64 d, .int .i64 h, .int .i64 mi, .int .i64 s] 30) = w2 := ⟨_, rfl⟩
  have hs2 : w1.heap.size < w2.heap.size := by rw [← hw2]; simp
  generalize w1.heap.size = B at *
  rw [hw2] at c1 HB ⊢
  clear c0 c2 c3 c4 c5 hw2
  go_region_with (go_at_call 91; refine (HM.out _).mono ?_; rintro e w3 ⟨rfl, hrow, hb3⟩; have c1b := (hb3.cell (p := ⟨B, 1, none⟩) (by simpa using hs2)).trans (by simpa using c1); have hck := hrow k _ HX.out; simp at hck; have HB3 := Lib.hid ((below_drewN HB.out 1).trans (hb3.mono (by simpa using HB.out.size))); clear hrow hb3)
  all_goals (go_wp2_with fail; go_ret2; exact ⟨rfl, HB3.out⟩)

set_option maxRecDepth 100000 in
set_option maxHeartbeats 1600000 in
theorem rl_65 (t : Int) (ht : -62135596800 ≤ t) (ht2 : t ≤ 253402300799) (w : World) (hP : PowIs w) :
    Calls Tryd.prog 46 #[.int .i64 t, .int .u8 65] w fun e w' => e = .returned (.tuple #[.string ⟨(textD 65 t).toArray⟩, .bool true]) ∧ Below w.heap.size w w' := by
  have hok := (dateC_ok ht).1
  have HD := Lib.hid (rdate_any t ht (by omega) w)
  have hw1 : 1 ≤ wdC t ∧ wdC t ≤ 7 := by unfold wdC; omega
  obtain ⟨k, hk⟩ : ∃ k : Nat, wdC t = k + 1 := ⟨(wdC t - 1).toNat, by omega⟩
  have htx : textD 65 t = weekdaysL.getD k [] := by
    show weekdaysL.getD (wdC t - 1).toNat [] = _
    rw [hk, show ((k : Int) + 1 - 1).toNat = k by omega]
  have hk7 : k < 7 := by omega
  have hx : weekdaysL[k]? = some (weekdaysL.getD k []) := get7 k hk7
  have hx3 := (long7 k hk7).1
  have hx4 := (long7 k hk7).2
  rw [htx]
  have HWD := Lib.hid (fun W => rweekday_any t ht (by omega) W)
  rw [hk] at HWD
  clear htx hok
  generalize weekdaysL.getD k [] = x at *
  generalize hDD : dateC t = DD at *
  obtain ⟨y, m, d, h, mi, s⟩ := DD
  simp only [DT.v] at *
  have HX := Lib.hid hx
  have HM := Lib.hid (fun W => rweekdays_any W)
  have hk7i : (k : Int) < 7 := by omega
  clear hx hk hw1
  go_enter Tryd.func46, Tryd.ntmps46
  go_wp2_with (first | (go_at_call 54; refine HD.out.mono ?_; rintro e w1 ⟨rfl, hb1⟩; obtain ⟨c0, c1, c2, c3, c4, c5⟩ := cells6_new w1 (.int .i64 y) (.int .i64 m) (.int .i64 d) (.int .i64 h) (.int .i64 mi) (.int .i64 s) 30; have HB := Lib.hid (hb1.alloc hb1.size (.cells #[.int .i64 y, .int .i64 m, .int .i64 d, .int .i64 h, .int .i64 mi, .int .i64 s] 30))) | (go_at_call 92; refine (HM.out _).mono ?_; rintro e w3 ⟨rfl, hrow, hb3⟩; have hck := hrow k _ HX.out; simp at hck; have HB3 := Lib.hid (HB.out.trans (hb3.mono HB.out.size)); clear hrow hb3) | (go_at_call 51; refine (HWD.out _).mono ?_; rintro e w4 ⟨rfl, rfl⟩))
  go_ret2
  exact ⟨rfl, HB3.out⟩

set_option maxRecDepth 100000 in
set_option maxHeartbeats 1600000 in
theorem rl_97 (t : Int) (ht : -62135596800 ≤ t) (ht2 : t ≤ 253402300799) (w : World) (hP : PowIs w) :
    Calls Tryd.prog 46 #[.int .i64 t, .int .u8 97] w fun e w' => e = .returned (.tuple #[.string ⟨(textD 97 t).toArray⟩, .bool true]) ∧ Below w.heap.size w w' := by
  have hok := (dateC_ok ht).1
  have HD := Lib.hid (rdate_any t ht (by omega) w)
  have hw1 : 1 ≤ wdC t ∧ wdC t ≤ 7 := by unfold wdC; omega
  obtain ⟨k, hk⟩ : ∃ k : Nat, wdC t = k + 1 := ⟨(wdC t - 1).toNat, by omega⟩
  have htx : textD 97 t = (weekdaysL.getD k []).take 3 := by
    show (weekdaysL.map (·.take 3)).getD (wdC t - 1).toNat [] = _
    rw [hk, show ((k : Int) + 1 - 1).toNat = k by omega]
    exact short7 k (by omega)
  have hk7 : k < 7 := by omega
  have hx : weekdaysL[k]? = some (weekdaysL.getD k []) := get7 k hk7
  have hx3 := (long7 k hk7).1
  have hx4 := (long7 k hk7).2
  rw [htx]
  have HWD := Lib.hid (fun W => rweekday_any t ht (by omega) W)
  rw [hk] at HWD
  clear htx hok
  generalize weekdaysL.getD k [] = x at *
  generalize hDD : dateC t = DD at *
  obtain ⟨y, m, d, h, mi, s⟩ := DD
  simp only [DT.v] at *
  have HX := Lib.hid hx
  have HM := Lib.hid (fun W => rweekdays_any W)
  have hk7i : (k : Int) < 7 := by omega
  clear hx hk hw1
  go_enter Tryd.func46, Tryd.ntmps46
  go_wp2_with (first | (go_at_call 54; refine HD.out.mono ?_; rintro e w1 ⟨rfl, hb1⟩; obtain ⟨c0, c1, c2, c3, c4, c5⟩ := cells6_new w1 (.int .i64 y) (.int .i64 m) (.int .i64 d) (.int .i64 h) (.int .i64 mi) (.int .i64 s) 30; have HB := Lib.hid (hb1.alloc hb1.size (.cells #[.int .i64 y, .int .i64 m, .int .i64 d, .int .i64 h, .int .i64 mi, .int .i64 s] 30))) | (go_at_call 92; refine (HM.out _).mono ?_; rintro e w3 ⟨rfl, hrow, hb3⟩; have hck := hrow k _ HX.out; simp at hck; have HB3 := Lib.hid (HB.out.trans (hb3.mono HB.out.size)); clear hrow hb3) | (go_at_call 51; refine (HWD.out _).mono ?_; rintro e w4 ⟨rfl, rfl⟩))
  go_ret2
  exact ⟨rfl, HB3.out⟩

set_option maxRecDepth 100000 in
set_option maxHeartbeats 1600000 in
theorem rl_none (u : UInt8) (h37 : u ≠ 37) (hn : (info (u.toNat : Int)).isSome = false) (t : Int) (ht : -62135596800 ≤ t) (ht2 : t ≤ 253402300799) (w : World) :
    Calls Tryd.prog 46 #[.int .i64 t, .int .u8 (u.toNat : Int)] w fun e w' => e = .returned (.tuple #[.string ⟨([] : Bs).toArray⟩, .bool false]) ∧ Below w.heap.size w w' := by
  have HD := Lib.hid (rdate_any t ht (by omega) w)
  have hm := (not_congr (key_info u)).2 (by rw [hn]; exact Bool.false_ne_true)
  have b37 := u8_ne (k := 37) (by decide) h37
  generalize (u.toNat : Int) = c at *
  simp only [keysC, List.mem_cons, List.not_mem_nil, or_false, not_or] at hm
  obtain ⟨a0, a1, a2, a3, a4, a5, a6, a7, a8, a9, a10, a11, a12, a13, a14, a15, a16, a17, a18⟩ := hm
  have b89 : (c == 89) = false := beq_eq_false_iff_ne.2 (by assumption)
  have b121 : (c == 121) = false := beq_eq_false_iff_ne.2 (by assumption)
  have b109 : (c == 109) = false := beq_eq_false_iff_ne.2 (by assumption)
  have b100 : (c == 100) = false := beq_eq_false_iff_ne.2 (by assumption)
  have b72 : (c == 72) = false := beq_eq_false_iff_ne.2 (by assumption)
  have b77 : (c == 77) = false := beq_eq_false_iff_ne.2 (by assumption)
  have b83 : (c == 83) = false := beq_eq_false_iff_ne.2 (by assumption)
  have b101 : (c == 101) = false := beq_eq_false_iff_ne.2 (by assumption)
  have b73 : (c == 73) = false := beq_eq_false_iff_ne.2 (by assumption)
  have b112 : (c == 112) = false := beq_eq_false_iff_ne.2 (by assumption)
  have b106 : (c == 106) = false := beq_eq_false_iff_ne.2 (by assumption)
  have b117 : (c == 117) = false := beq_eq_false_iff_ne.2 (by assumption)
  have b71 : (c == 71) = false := beq_eq_false_iff_ne.2 (by assumption)
  have b86 : (c == 86) = false := beq_eq_false_iff_ne.2 (by assumption)
  have b66 : (c == 66) = false := beq_eq_false_iff_ne.2 (by assumption)
  have b98 : (c == 98) = false := beq_eq_false_iff_ne.2 (by assumption)
  have b65 : (c == 65) = false := beq_eq_false_iff_ne.2 (by assumption)
  have b97 : (c == 97) = false := beq_eq_false_iff_ne.2 (by assumption)
  have b115 : (c == 115) = false := beq_eq_false_iff_ne.2 (by assumption)
  clear a0 a1 a2 a3 a4 a5 a6 a7 a8 a9 a10 a11 a12 a13 a14 a15 a16 a17 a18 hn h37
  generalize hDD : dateC t = DD at *
  obtain ⟨y, m, d, h, mi, s⟩ := DD
  simp only [DT.v] at *
  go_enter Tryd.func46, Tryd.ntmps46
  go_wp2_with ((go_at_call 54; refine HD.out.mono ?_; rintro e w1 ⟨rfl, hb1⟩; obtain ⟨c0, c1, c2, c3, c4, c5⟩ := cells6_new w1 (.int .i64 y) (.int .i64 m) (.int .i64 d) (.int .i64 h) (.int .i64 mi) (.int .i64 s) 30; have HB := Lib.hid (hb1.alloc hb1.size (.cells #[.int .i64 y, .int .i64 m, .int .i64 d, .int .i64 h, .int .i64 mi, .int .i64 s] 30))))
  go_ret2
  exact ⟨rfl, HB.out⟩
/-- What a letter writes in the reference. -/
noncomputable def rletC (u : UInt8) (t : Int) : Bs := if u = 37 then [37] else textD u t
def known (u : UInt8) : Bool := u = 37 || (info (u.toNat : Int)).isSome
set_option maxRecDepth 100000 in
theorem rletter_any (u : UInt8) (t : Int) (ht : -62135596800 ≤ t) (ht2 : t ≤ 253402300799) (w : World) (hP : PowIs w) :
    Calls Tryd.prog 46 #[.int .i64 t, .int .u8 (u.toNat : Int)] w fun e w' => e = .returned (.tuple #[.string ⟨(rletC u t).toArray⟩, .bool (known u)]) ∧ Below w.heap.size w w' := by
  by_cases h37 : u = 37
  · subst h37; exact rl_37 t ht ht2 w hP
  · have hr : rletC u t = textD u t := if_neg h37
    have hk : known u = (info (u.toNat : Int)).isSome := by unfold known; rw [decide_eq_false h37]; rfl
    rw [hr, hk]
    cases hi : (info (u.toNat : Int)).isSome with
    | false =>
      have : textD u t = [] := by
        unfold textD
        cases h : info (u.toNat : Int) with
        | none => rfl
        | some i => rw [h] at hi; cases hi
      rw [this]
      exact rl_none u h37 hi t ht ht2 w
    | true =>
      have hm := (key_info u).2 hi
      have hu : ∀ k : Nat, k < 256 → (u.toNat : Int) = (k : Int) → u = UInt8.ofNat k := fun k hk h => by
        apply UInt8.toNat_inj.1
        have : u.toNat = k := by omega
        rw [this]; simp [UInt8.toNat_ofNat']; omega
      simp only [keysC, List.mem_cons, List.not_mem_nil, or_false] at hm
      clear hi hk hr h37
      rcases hm with h | h | h | h | h | h | h | h | h | h | h | h | h | h | h | h | h | h | h
      · obtain rfl := hu 115 (by decide) h; exact rl_115 t ht ht2 w hP
      · obtain rfl := hu 97 (by decide) h; exact rl_97 t ht ht2 w hP
      · obtain rfl := hu 65 (by decide) h; exact rl_65 t ht ht2 w hP
      · obtain rfl := hu 98 (by decide) h; exact rl_98 t ht ht2 w hP
      · obtain rfl := hu 66 (by decide) h; exact rl_66 t ht ht2 w hP
      · obtain rfl := hu 86 (by decide) h; exact rl_86 t ht ht2 w hP
      · obtain rfl := hu 71 (by decide) h; exact rl_71 t ht ht2 w hP
      · obtain rfl := hu 117 (by decide) h; exact rl_117 t ht ht2 w hP
      · obtain rfl := hu 106 (by decide) h; exact rl_106 t ht ht2 w hP
      · obtain rfl := hu 112 (by decide) h; exact rl_112 t ht ht2 w hP
      · obtain rfl := hu 73 (by decide) h; exact rl_73 t ht ht2 w hP
      · obtain rfl := hu 101 (by decide) h; exact rl_101 t ht ht2 w hP
      · obtain rfl := hu 83 (by decide) h; exact rl_83 t ht ht2 w hP
      · obtain rfl := hu 77 (by decide) h; exact rl_77 t ht ht2 w hP
      · obtain rfl := hu 72 (by decide) h; exact rl_72 t ht ht2 w hP
      · obtain rfl := hu 100 (by decide) h; exact rl_100 t ht ht2 w hP
      · obtain rfl := hu 109 (by decide) h; exact rl_109 t ht ht2 w hP
      · obtain rfl := hu 121 (by decide) h; exact rl_121 t ht ht2 w hP
      · obtain rfl := hu 89 (by decide) h; exact rl_89 t ht ht2 w hP
end Go.Proofs.YtmidphmniikdpaaDoor
