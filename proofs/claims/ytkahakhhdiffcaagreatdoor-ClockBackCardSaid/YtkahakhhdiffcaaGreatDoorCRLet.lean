/- Contracts of the reference's digits and names, and of what its letters write. Contracts of what the reference's letters write. Contracts of what the reference's letters write, second part: names, and letters that are none. -/
import Derived.Test.YtkahakhhdiffcaaGreatDoorCWeek2
import Derived.Test.YtkahakhhdiffcaaGreatDoorCWrite2
import Derived.Deep.RegionWith
namespace Go.Proofs.YtkahakhhdiffcaaGreatDoor
set_option linter.unusedVariables false
set_option linter.unusedSimpArgs false
open Go.RowKit
attribute [local go_sem] ba_append

theorem padC_none {d : Int} {l : Bs} (h : d ≤ l.length) : padC d l = l := by
  unfold padC
  rw [show (d - l.length).toNat = 0 by omega]; rfl
theorem itoa_pos (n : Int) : 1 ≤ (Lib.itoa n).length := by
  unfold Lib.itoa
  split
  · simp
  · rw [Lib.decDigits_length]; exact Lib.nDigits_pos _
theorem repeatL_48 (j : Nat) (l : Bs) : Lib.repeatL [48] (j + 1) ++ l = 48 :: (Lib.repeatL [48] j ++ l) := rfl
set_option maxRecDepth 100000 in
theorem rdigits_any (n : Int) (k : Int) (h0 : -9223372036854775808 ≤ n) (h1 : n ≤ 9223372036854775807) (hk : 0 ≤ k) (hk2 : k ≤ 100) (w : World) (hP : PowIs w) :
    Calls Tryz.prog 96 #[.int .i64 n, .int .i64 k] w fun e w' => e = .returned (.string ⟨(padC k (Lib.itoa n)).toArray⟩) ∧ Below w.heap.size w w' := by
  have HI := Lib.hid (itoa_any n h0 h1 w hP)
  have hl := Lib.itoa_length_le n h0 h1
  generalize Lib.itoa n = q at *
  have HZ : Hid (∀ j : Nat, ⟨#[48]⟩ ++ (⟨(Lib.repeatL [48] j ++ q).toArray⟩ : ByteArray) = ⟨(Lib.repeatL [48] (j + 1) ++ q).toArray⟩) := fun j => ba_append [48] _
  have HLn : Hid (∀ j : Nat, (Lib.repeatL [48] j ++ q).length = j + q.length) := by intro j; rw [List.length_append, Lib.repeatL_length]; simp
  clear hP h0 h1
  go_enter Tryz.func96, Tryz.ntmps96
  go_wp2_with (go_at_call 80; refine HI.out.mono ?_; rintro e w1 ⟨rfl, hb⟩)
  go_loopw [5] (fun v5 wr => ∃ (j : Nat) (x : Bs), v5 = .string ⟨x.toArray⟩ ∧ Hid (x = Lib.repeatL [48] j ++ q) ∧ x.length = j + q.length ∧ wr = w1 ∧ (j = 0 ∨ (j : Int) + q.length ≤ k)) (fun v5 _ => (200 : Nat) - (match v5 with | .string s => s.size | _ => 0))
  case atStart => exact ⟨0, q, by first | trivial | rfl, rfl, by simp, by first | trivial | rfl, .inl rfl⟩
  case round =>
    obtain ⟨j, x, rfl, HX, hxl, rfl, hj⟩ := hrel
    have hxb : x.length ≤ 130 := by omega
    by_cases hlt : (x.length : Int) < k
    · go_wp2_with fail
      go_roundw
      case rel => exact ⟨j + 1, 48 :: x, by first | trivial | rfl, by show _ = _; rw [HX.out]; rfl, by simp; omega, by first | trivial | rfl, .inr (by push_cast; omega)⟩
      case measure => show 200 - (48 :: x).length < 200 - x.length; simp; omega
    · have hres : padC k q = x := by
        unfold padC
        rw [HX.out]
        congr 2
        omega
      go_wp2_with fail
      go_ret
      exact ⟨by first | rfl | rw [hres], hb⟩
set_option maxRecDepth 100000 in
theorem rmonths_any (w : World) :
    Calls Tryz.prog 99 #[] w fun e w' => e = .returned (.slice (some ⟨w.heap.size, 0, none⟩) 12 12) ∧ SRow w' w.heap.size monthsL ∧ Below w.heap.size w w' := by
  have hr := srow_new w monthsL 9
  have HR := Lib.hid hr
  clear hr
  go_enter Tryz.func99, Tryz.ntmps99
  go_wp2_with fail
  go_ret
  exact ⟨rfl, HR.out, below_alloc1 _ _⟩
set_option maxRecDepth 100000 in
theorem rweekdays_any (w : World) :
    Calls Tryz.prog 100 #[] w fun e w' => e = .returned (.slice (some ⟨w.heap.size, 0, none⟩) 7 7) ∧ SRow w' w.heap.size weekdaysL ∧ Below w.heap.size w w' := by
  have hr := srow_new w weekdaysL 9
  have HR := Lib.hid hr
  clear hr
  go_enter Tryz.func100, Tryz.ntmps100
  go_wp2_with fail
  go_ret
  exact ⟨rfl, HR.out, below_alloc1 _ _⟩
end Go.Proofs.YtkahakhhdiffcaaGreatDoor
namespace Go.Proofs.YtkahakhhdiffcaaGreatDoor
set_option linter.unusedVariables false
set_option linter.unusedSimpArgs false
open Go.RowKit
attribute [local go_sem] ba_append

set_option maxRecDepth 100000 in
set_option maxHeartbeats 1600000 in
theorem rl_89 (t : Int) (ht : -62135596800 ≤ t) (ht2 : t ≤ 253402300799) (w : World) (hP : PowIs w) :
    Calls Tryz.prog 40 #[.int .i64 t, .int .u8 89] w fun e w' => e = .returned (.tuple #[.string ⟨(textD 89 t).toArray⟩, .bool true]) ∧ Below w.heap.size w w' := by
  have hok := (dateC_ok ht).1
  have hyy := year_100000 ht (by omega)
  have q1 := hok.date.m1; have q2 := hok.date.m12; have q3 := hok.date.d1; have q4 := hok.date.dn; have q5 := dim_ge (dateC t).y (dateC t).m; have q4b : (dateC t).d ≤ 31 := by omega
  have q6 := hok.h0; have q7 := hok.h1; have q8 := hok.mi0; have q9 := hok.mi1; have q10 := hok.s0; have q11 := hok.s1
  have HD := Lib.hid (rdate_any t ht (by omega) w)
  have HP := Lib.hid hP
  have htx : textD 89 t = padC 4 (Lib.itoa ((dateC t).y)) := rfl
  rw [htx]
  clear htx hok q4 hP ht ht2
  generalize dateC t = DD at *
  obtain ⟨y, m, d, h, mi, s⟩ := DD
  simp only [DT.v] at *
  have HG := Lib.hid (fun W (hp : PowIs W) => rdigits_any (y) 4 (by omega) (by omega) (by omega) (by omega) W hp)
  go_enter Tryz.func40, Tryz.ntmps40
  go_wp2_with (first | (go_at_call 25; refine HD.out.mono ?_; rintro e w1 ⟨rfl, hb1⟩; obtain ⟨c0, c1, c2, c3, c4, c5⟩ := cells6_new w1 (.int .i64 y) (.int .i64 m) (.int .i64 d) (.int .i64 h) (.int .i64 mi) (.int .i64 s) 39; have HB := Lib.hid (hb1.alloc hb1.size (.cells #[.int .i64 y, .int .i64 m, .int .i64 d, .int .i64 h, .int .i64 mi, .int .i64 s] 39))) | (go_at_call 96; refine (HG.out _ (HP.out.below HB.out)).mono ?_; rintro e w2 ⟨rfl, hb2⟩))
  go_ret2
  exact ⟨rfl, HB.out.trans (hb2.mono HB.out.size)⟩

set_option maxRecDepth 100000 in
set_option maxHeartbeats 1600000 in
theorem rl_121 (t : Int) (ht : -62135596800 ≤ t) (ht2 : t ≤ 253402300799) (w : World) (hP : PowIs w) :
    Calls Tryz.prog 40 #[.int .i64 t, .int .u8 121] w fun e w' => e = .returned (.tuple #[.string ⟨(textD 121 t).toArray⟩, .bool true]) ∧ Below w.heap.size w w' := by
  have hok := (dateC_ok ht).1
  have hyy := year_100000 ht (by omega)
  have q1 := hok.date.m1; have q2 := hok.date.m12; have q3 := hok.date.d1; have q4 := hok.date.dn; have q5 := dim_ge (dateC t).y (dateC t).m; have q4b : (dateC t).d ≤ 31 := by omega
  have q6 := hok.h0; have q7 := hok.h1; have q8 := hok.mi0; have q9 := hok.mi1; have q10 := hok.s0; have q11 := hok.s1
  have HD := Lib.hid (rdate_any t ht (by omega) w)
  have HP := Lib.hid hP
  have htx : textD 121 t = padC 2 (Lib.itoa ((dateC t).y % 100)) := rfl
  rw [htx]
  clear htx hok q4 hP ht ht2
  generalize dateC t = DD at *
  obtain ⟨y, m, d, h, mi, s⟩ := DD
  simp only [DT.v] at *
  have HG := Lib.hid (fun W (hp : PowIs W) => rdigits_any (y % 100) 2 (by omega) (by omega) (by omega) (by omega) W hp)
  generalize hv : y % 100 = v at *
  have hv2 : y.tmod 100 = v := by rw [Int.tmod_eq_emod_of_nonneg (by omega)]; exact hv
  go_enter Tryz.func40, Tryz.ntmps40
  go_wp2_with (first | (go_at_call 25; refine HD.out.mono ?_; rintro e w1 ⟨rfl, hb1⟩; obtain ⟨c0, c1, c2, c3, c4, c5⟩ := cells6_new w1 (.int .i64 y) (.int .i64 m) (.int .i64 d) (.int .i64 h) (.int .i64 mi) (.int .i64 s) 39; have HB := Lib.hid (hb1.alloc hb1.size (.cells #[.int .i64 y, .int .i64 m, .int .i64 d, .int .i64 h, .int .i64 mi, .int .i64 s] 39))) | (go_at_call 96; refine (HG.out _ (HP.out.below HB.out)).mono ?_; rintro e w2 ⟨rfl, hb2⟩))
  go_ret2
  exact ⟨rfl, HB.out.trans (hb2.mono HB.out.size)⟩

set_option maxRecDepth 100000 in
set_option maxHeartbeats 1600000 in
theorem rl_109 (t : Int) (ht : -62135596800 ≤ t) (ht2 : t ≤ 253402300799) (w : World) (hP : PowIs w) :
    Calls Tryz.prog 40 #[.int .i64 t, .int .u8 109] w fun e w' => e = .returned (.tuple #[.string ⟨(textD 109 t).toArray⟩, .bool true]) ∧ Below w.heap.size w w' := by
  have hok := (dateC_ok ht).1
  have hyy := year_100000 ht (by omega)
  have q1 := hok.date.m1; have q2 := hok.date.m12; have q3 := hok.date.d1; have q4 := hok.date.dn; have q5 := dim_ge (dateC t).y (dateC t).m; have q4b : (dateC t).d ≤ 31 := by omega
  have q6 := hok.h0; have q7 := hok.h1; have q8 := hok.mi0; have q9 := hok.mi1; have q10 := hok.s0; have q11 := hok.s1
  have HD := Lib.hid (rdate_any t ht (by omega) w)
  have HP := Lib.hid hP
  have htx : textD 109 t = padC 2 (Lib.itoa ((dateC t).m)) := rfl
  rw [htx]
  clear htx hok q4 hP ht ht2
  generalize dateC t = DD at *
  obtain ⟨y, m, d, h, mi, s⟩ := DD
  simp only [DT.v] at *
  have HG := Lib.hid (fun W (hp : PowIs W) => rdigits_any (m) 2 (by omega) (by omega) (by omega) (by omega) W hp)
  go_enter Tryz.func40, Tryz.ntmps40
  go_wp2_with (first | (go_at_call 25; refine HD.out.mono ?_; rintro e w1 ⟨rfl, hb1⟩; obtain ⟨c0, c1, c2, c3, c4, c5⟩ := cells6_new w1 (.int .i64 y) (.int .i64 m) (.int .i64 d) (.int .i64 h) (.int .i64 mi) (.int .i64 s) 39; have HB := Lib.hid (hb1.alloc hb1.size (.cells #[.int .i64 y, .int .i64 m, .int .i64 d, .int .i64 h, .int .i64 mi, .int .i64 s] 39))) | (go_at_call 96; refine (HG.out _ (HP.out.below HB.out)).mono ?_; rintro e w2 ⟨rfl, hb2⟩))
  go_ret2
  exact ⟨rfl, HB.out.trans (hb2.mono HB.out.size)⟩

set_option maxRecDepth 100000 in
set_option maxHeartbeats 1600000 in
theorem rl_100 (t : Int) (ht : -62135596800 ≤ t) (ht2 : t ≤ 253402300799) (w : World) (hP : PowIs w) :
    Calls Tryz.prog 40 #[.int .i64 t, .int .u8 100] w fun e w' => e = .returned (.tuple #[.string ⟨(textD 100 t).toArray⟩, .bool true]) ∧ Below w.heap.size w w' := by
  have hok := (dateC_ok ht).1
  have hyy := year_100000 ht (by omega)
  have q1 := hok.date.m1; have q2 := hok.date.m12; have q3 := hok.date.d1; have q4 := hok.date.dn; have q5 := dim_ge (dateC t).y (dateC t).m; have q4b : (dateC t).d ≤ 31 := by omega
  have q6 := hok.h0; have q7 := hok.h1; have q8 := hok.mi0; have q9 := hok.mi1; have q10 := hok.s0; have q11 := hok.s1
  have HD := Lib.hid (rdate_any t ht (by omega) w)
  have HP := Lib.hid hP
  have htx : textD 100 t = padC 2 (Lib.itoa ((dateC t).d)) := rfl
  rw [htx]
  clear htx hok q4 hP ht ht2
  generalize dateC t = DD at *
  obtain ⟨y, m, d, h, mi, s⟩ := DD
  simp only [DT.v] at *
  have HG := Lib.hid (fun W (hp : PowIs W) => rdigits_any (d) 2 (by omega) (by omega) (by omega) (by omega) W hp)
  go_enter Tryz.func40, Tryz.ntmps40
  go_wp2_with (first | (go_at_call 25; refine HD.out.mono ?_; rintro e w1 ⟨rfl, hb1⟩; obtain ⟨c0, c1, c2, c3, c4, c5⟩ := cells6_new w1 (.int .i64 y) (.int .i64 m) (.int .i64 d) (.int .i64 h) (.int .i64 mi) (.int .i64 s) 39; have HB := Lib.hid (hb1.alloc hb1.size (.cells #[.int .i64 y, .int .i64 m, .int .i64 d, .int .i64 h, .int .i64 mi, .int .i64 s] 39))) | (go_at_call 96; refine (HG.out _ (HP.out.below HB.out)).mono ?_; rintro e w2 ⟨rfl, hb2⟩))
  go_ret2
  exact ⟨rfl, HB.out.trans (hb2.mono HB.out.size)⟩

set_option maxRecDepth 100000 in
set_option maxHeartbeats 1600000 in
theorem rl_72 (t : Int) (ht : -62135596800 ≤ t) (ht2 : t ≤ 253402300799) (w : World) (hP : PowIs w) :
    Calls Tryz.prog 40 #[.int .i64 t, .int .u8 72] w fun e w' => e = .returned (.tuple #[.string ⟨(textD 72 t).toArray⟩, .bool true]) ∧ Below w.heap.size w w' := by
  have hok := (dateC_ok ht).1
  have hyy := year_100000 ht (by omega)
  have q1 := hok.date.m1; have q2 := hok.date.m12; have q3 := hok.date.d1; have q4 := hok.date.dn; have q5 := dim_ge (dateC t).y (dateC t).m; have q4b : (dateC t).d ≤ 31 := by omega
  have q6 := hok.h0; have q7 := hok.h1; have q8 := hok.mi0; have q9 := hok.mi1; have q10 := hok.s0; have q11 := hok.s1
  have HD := Lib.hid (rdate_any t ht (by omega) w)
  have HP := Lib.hid hP
  have htx : textD 72 t = padC 2 (Lib.itoa ((dateC t).h)) := rfl
  rw [htx]
  clear htx hok q4 hP ht ht2
  generalize dateC t = DD at *
  obtain ⟨y, m, d, h, mi, s⟩ := DD
  simp only [DT.v] at *
  have HG := Lib.hid (fun W (hp : PowIs W) => rdigits_any (h) 2 (by omega) (by omega) (by omega) (by omega) W hp)
  go_enter Tryz.func40, Tryz.ntmps40
  go_wp2_with (first | (go_at_call 25; refine HD.out.mono ?_; rintro e w1 ⟨rfl, hb1⟩; obtain ⟨c0, c1, c2, c3, c4, c5⟩ := cells6_new w1 (.int .i64 y) (.int .i64 m) (.int .i64 d) (.int .i64 h) (.int .i64 mi) (.int .i64 s) 39; have HB := Lib.hid (hb1.alloc hb1.size (.cells #[.int .i64 y, .int .i64 m, .int .i64 d, .int .i64 h, .int .i64 mi, .int .i64 s] 39))) | (go_at_call 96; refine (HG.out _ (HP.out.below HB.out)).mono ?_; rintro e w2 ⟨rfl, hb2⟩))
  go_ret2
  exact ⟨rfl, HB.out.trans (hb2.mono HB.out.size)⟩

set_option maxRecDepth 100000 in
set_option maxHeartbeats 1600000 in
theorem rl_77 (t : Int) (ht : -62135596800 ≤ t) (ht2 : t ≤ 253402300799) (w : World) (hP : PowIs w) :
    Calls Tryz.prog 40 #[.int .i64 t, .int .u8 77] w fun e w' => e = .returned (.tuple #[.string ⟨(textD 77 t).toArray⟩, .bool true]) ∧ Below w.heap.size w w' := by
  have hok := (dateC_ok ht).1
  have hyy := year_100000 ht (by omega)
  have q1 := hok.date.m1; have q2 := hok.date.m12; have q3 := hok.date.d1; have q4 := hok.date.dn; have q5 := dim_ge (dateC t).y (dateC t).m; have q4b : (dateC t).d ≤ 31 := by omega
  have q6 := hok.h0; have q7 := hok.h1; have q8 := hok.mi0; have q9 := hok.mi1; have q10 := hok.s0; have q11 := hok.s1
  have HD := Lib.hid (rdate_any t ht (by omega) w)
  have HP := Lib.hid hP
  have htx : textD 77 t = padC 2 (Lib.itoa ((dateC t).mi)) := rfl
  rw [htx]
  clear htx hok q4 hP ht ht2
  generalize dateC t = DD at *
  obtain ⟨y, m, d, h, mi, s⟩ := DD
  simp only [DT.v] at *
  have HG := Lib.hid (fun W (hp : PowIs W) => rdigits_any (mi) 2 (by omega) (by omega) (by omega) (by omega) W hp)
  go_enter Tryz.func40, Tryz.ntmps40
  go_wp2_with (first | (go_at_call 25; refine HD.out.mono ?_; rintro e w1 ⟨rfl, hb1⟩; obtain ⟨c0, c1, c2, c3, c4, c5⟩ := cells6_new w1 (.int .i64 y) (.int .i64 m) (.int .i64 d) (.int .i64 h) (.int .i64 mi) (.int .i64 s) 39; have HB := Lib.hid (hb1.alloc hb1.size (.cells #[.int .i64 y, .int .i64 m, .int .i64 d, .int .i64 h, .int .i64 mi, .int .i64 s] 39))) | (go_at_call 96; refine (HG.out _ (HP.out.below HB.out)).mono ?_; rintro e w2 ⟨rfl, hb2⟩))
  go_ret2
  exact ⟨rfl, HB.out.trans (hb2.mono HB.out.size)⟩

set_option maxRecDepth 100000 in
set_option maxHeartbeats 1600000 in
theorem rl_83 (t : Int) (ht : -62135596800 ≤ t) (ht2 : t ≤ 253402300799) (w : World) (hP : PowIs w) :
    Calls Tryz.prog 40 #[.int .i64 t, .int .u8 83] w fun e w' => e = .returned (.tuple #[.string ⟨(textD 83 t).toArray⟩, .bool true]) ∧ Below w.heap.size w w' := by
  have hok := (dateC_ok ht).1
  have hyy := year_100000 ht (by omega)
  have q1 := hok.date.m1; have q2 := hok.date.m12; have q3 := hok.date.d1; have q4 := hok.date.dn; have q5 := dim_ge (dateC t).y (dateC t).m; have q4b : (dateC t).d ≤ 31 := by omega
  have q6 := hok.h0; have q7 := hok.h1; have q8 := hok.mi0; have q9 := hok.mi1; have q10 := hok.s0; have q11 := hok.s1
  have HD := Lib.hid (rdate_any t ht (by omega) w)
  have HP := Lib.hid hP
  have htx : textD 83 t = padC 2 (Lib.itoa ((dateC t).s)) := rfl
  rw [htx]
  clear htx hok q4 hP ht ht2
  generalize dateC t = DD at *
  obtain ⟨y, m, d, h, mi, s⟩ := DD
  simp only [DT.v] at *
  have HG := Lib.hid (fun W (hp : PowIs W) => rdigits_any (s) 2 (by omega) (by omega) (by omega) (by omega) W hp)
  go_enter Tryz.func40, Tryz.ntmps40
  go_wp2_with (first | (go_at_call 25; refine HD.out.mono ?_; rintro e w1 ⟨rfl, hb1⟩; obtain ⟨c0, c1, c2, c3, c4, c5⟩ := cells6_new w1 (.int .i64 y) (.int .i64 m) (.int .i64 d) (.int .i64 h) (.int .i64 mi) (.int .i64 s) 39; have HB := Lib.hid (hb1.alloc hb1.size (.cells #[.int .i64 y, .int .i64 m, .int .i64 d, .int .i64 h, .int .i64 mi, .int .i64 s] 39))) | (go_at_call 96; refine (HG.out _ (HP.out.below HB.out)).mono ?_; rintro e w2 ⟨rfl, hb2⟩))
  go_ret2
  exact ⟨rfl, HB.out.trans (hb2.mono HB.out.size)⟩

set_option maxRecDepth 100000 in
set_option maxHeartbeats 1600000 in
theorem rl_101 (t : Int) (ht : -62135596800 ≤ t) (ht2 : t ≤ 253402300799) (w : World) (hP : PowIs w) :
    Calls Tryz.prog 40 #[.int .i64 t, .int .u8 101] w fun e w' => e = .returned (.tuple #[.string ⟨(textD 101 t).toArray⟩, .bool true]) ∧ Below w.heap.size w w' := by
  have hok := (dateC_ok ht).1
  have hyy := year_100000 ht (by omega)
  have q1 := hok.date.m1; have q2 := hok.date.m12; have q3 := hok.date.d1; have q4 := hok.date.dn; have q5 := dim_ge (dateC t).y (dateC t).m; have q4b : (dateC t).d ≤ 31 := by omega
  have q6 := hok.h0; have q7 := hok.h1; have q8 := hok.mi0; have q9 := hok.mi1; have q10 := hok.s0; have q11 := hok.s1
  have HD := Lib.hid (rdate_any t ht (by omega) w)
  have HP := Lib.hid hP
  have htx : textD 101 t = padC 1 (Lib.itoa ((dateC t).d)) := by
    show padC 0 (Lib.itoa ((dateC t).d)) = _
    have := itoa_pos ((dateC t).d)
    rw [padC_none (by omega), padC_none (by omega)]
  rw [htx]
  clear htx hok q4 hP ht ht2
  generalize dateC t = DD at *
  obtain ⟨y, m, d, h, mi, s⟩ := DD
  simp only [DT.v] at *
  have HG := Lib.hid (fun W (hp : PowIs W) => rdigits_any (d) 1 (by omega) (by omega) (by omega) (by omega) W hp)
  go_enter Tryz.func40, Tryz.ntmps40
  go_wp2_with (first | (go_at_call 25; refine HD.out.mono ?_; rintro e w1 ⟨rfl, hb1⟩; obtain ⟨c0, c1, c2, c3, c4, c5⟩ := cells6_new w1 (.int .i64 y) (.int .i64 m) (.int .i64 d) (.int .i64 h) (.int .i64 mi) (.int .i64 s) 39; have HB := Lib.hid (hb1.alloc hb1.size (.cells #[.int .i64 y, .int .i64 m, .int .i64 d, .int .i64 h, .int .i64 mi, .int .i64 s] 39))) | (go_at_call 96; refine (HG.out _ (HP.out.below HB.out)).mono ?_; rintro e w2 ⟨rfl, hb2⟩))
  go_ret2
  exact ⟨rfl, HB.out.trans (hb2.mono HB.out.size)⟩

set_option maxRecDepth 100000 in
set_option maxHeartbeats 1600000 in
theorem rl_73 (t : Int) (ht : -62135596800 ≤ t) (ht2 : t ≤ 253402300799) (w : World) (hP : PowIs w) :
    Calls Tryz.prog 40 #[.int .i64 t, .int .u8 73] w fun e w' => e = .returned (.tuple #[.string ⟨(textD 73 t).toArray⟩, .bool true]) ∧ Below w.heap.size w w' := by
  have hok := (dateC_ok ht).1
  have hyy := year_100000 ht (by omega)
  have q1 := hok.date.m1; have q2 := hok.date.m12; have q3 := hok.date.d1; have q4 := hok.date.dn; have q5 := dim_ge (dateC t).y (dateC t).m; have q4b : (dateC t).d ≤ 31 := by omega
  have q6 := hok.h0; have q7 := hok.h1; have q8 := hok.mi0; have q9 := hok.mi1; have q10 := hok.s0; have q11 := hok.s1
  have HD := Lib.hid (rdate_any t ht (by omega) w)
  have HP := Lib.hid hP
  have htx : textD 73 t = padC 2 (Lib.itoa (((dateC t).h + 11) % 12 + 1)) := rfl
  rw [htx]
  clear htx hok q4 hP ht ht2
  generalize dateC t = DD at *
  obtain ⟨y, m, d, h, mi, s⟩ := DD
  simp only [DT.v] at *
  have HG := Lib.hid (fun W (hp : PowIs W) => rdigits_any ((h + 11) % 12 + 1) 2 (by omega) (by omega) (by omega) (by omega) W hp)
  generalize hv : (h + 11) % 12 + 1 = v at *
  obtain ⟨u, hu⟩ : ∃ u, (h + 11) % 12 = u := ⟨_, rfl⟩
  have hv2 : (h + 11).tmod 12 = u := by rw [Int.tmod_eq_emod_of_nonneg (by omega)]; exact hu
  have hu2 : 0 ≤ u ∧ u < 12 := by omega
  rw [hu] at hv
  go_enter Tryz.func40, Tryz.ntmps40
  go_wp2_with (first | (go_at_call 25; refine HD.out.mono ?_; rintro e w1 ⟨rfl, hb1⟩; obtain ⟨c0, c1, c2, c3, c4, c5⟩ := cells6_new w1 (.int .i64 y) (.int .i64 m) (.int .i64 d) (.int .i64 h) (.int .i64 mi) (.int .i64 s) 39; have HB := Lib.hid (hb1.alloc hb1.size (.cells #[.int .i64 y, .int .i64 m, .int .i64 d, .int .i64 h, .int .i64 mi, .int .i64 s] 39))) | (go_at_call 96; refine (HG.out _ (HP.out.below HB.out)).mono ?_; rintro e w2 ⟨rfl, hb2⟩))
  go_ret2
  exact ⟨rfl, HB.out.trans (hb2.mono HB.out.size)⟩

set_option maxRecDepth 100000 in
set_option maxHeartbeats 1600000 in
theorem rl_112 (t : Int) (ht : -62135596800 ≤ t) (ht2 : t ≤ 253402300799) (w : World) (hP : PowIs w) :
    Calls Tryz.prog 40 #[.int .i64 t, .int .u8 112] w fun e w' => e = .returned (.tuple #[.string ⟨(textD 112 t).toArray⟩, .bool true]) ∧ Below w.heap.size w w' := by
  have hok := (dateC_ok ht).1
  have hyy := year_100000 ht (by omega)
  have q1 := hok.date.m1; have q2 := hok.date.m12; have q3 := hok.date.d1; have q4 := hok.date.dn; have q5 := dim_ge (dateC t).y (dateC t).m; have q4b : (dateC t).d ≤ 31 := by omega
  have q6 := hok.h0; have q7 := hok.h1; have q8 := hok.mi0; have q9 := hok.mi1; have q10 := hok.s0; have q11 := hok.s1
  have HD := Lib.hid (rdate_any t ht (by omega) w)
  have HP := Lib.hid hP
  have htx : textD 112 t = if (dateC t).h < 12 then [65, 77] else [80, 77] := by
    show ([[65, 77], [80, 77]] : List Bs).getD ((dateC t).h / 12 + 1 - 1).toNat [] = _
    by_cases hh : (dateC t).h < 12
    · rw [if_pos hh, show ((dateC t).h / 12 + 1 - 1).toNat = 0 by omega]; rfl
    · rw [if_neg hh, show ((dateC t).h / 12 + 1 - 1).toNat = 1 by omega]; rfl
  rw [htx]
  clear htx
  clear hok q4 hP
  generalize hDD : dateC t = DD at *
  obtain ⟨y, m, d, h, mi, s⟩ := DD
  simp only [DT.v] at *
  by_cases hh : h < 12
  · rw [if_pos hh]
    go_enter Tryz.func40, Tryz.ntmps40
    go_wp2_with (go_at_call 25; refine HD.out.mono ?_; rintro e w1 ⟨rfl, hb1⟩; obtain ⟨c0, c1, c2, c3, c4, c5⟩ := cells6_new w1 (.int .i64 y) (.int .i64 m) (.int .i64 d) (.int .i64 h) (.int .i64 mi) (.int .i64 s) 39; have HB := Lib.hid (hb1.alloc hb1.size (.cells #[.int .i64 y, .int .i64 m, .int .i64 d, .int .i64 h, .int .i64 mi, .int .i64 s] 39)))
    go_ret2
    exact ⟨rfl, HB.out⟩
  · rw [if_neg hh]
    go_enter Tryz.func40, Tryz.ntmps40
    go_wp2_with (go_at_call 25; refine HD.out.mono ?_; rintro e w1 ⟨rfl, hb1⟩; obtain ⟨c0, c1, c2, c3, c4, c5⟩ := cells6_new w1 (.int .i64 y) (.int .i64 m) (.int .i64 d) (.int .i64 h) (.int .i64 mi) (.int .i64 s) 39; have HB := Lib.hid (hb1.alloc hb1.size (.cells #[.int .i64 y, .int .i64 m, .int .i64 d, .int .i64 h, .int .i64 mi, .int .i64 s] 39)))
    go_ret2
    exact ⟨rfl, HB.out⟩

set_option maxRecDepth 100000 in
set_option maxHeartbeats 1600000 in
theorem rl_106 (t : Int) (ht : -62135596800 ≤ t) (ht2 : t ≤ 253402300799) (w : World) (hP : PowIs w) :
    Calls Tryz.prog 40 #[.int .i64 t, .int .u8 106] w fun e w' => e = .returned (.tuple #[.string ⟨(textD 106 t).toArray⟩, .bool true]) ∧ Below w.heap.size w w' := by
  have hok := (dateC_ok ht).1
  have hyy := year_100000 ht (by omega)
  have q1 := hok.date.m1; have q2 := hok.date.m12; have q3 := hok.date.d1; have q4 := hok.date.dn; have q5 := dim_ge (dateC t).y (dateC t).m; have q4b : (dateC t).d ≤ 31 := by omega
  have q6 := hok.h0; have q7 := hok.h1; have q8 := hok.mi0; have q9 := hok.mi1; have q10 := hok.s0; have q11 := hok.s1
  have HD := Lib.hid (rdate_any t ht (by omega) w)
  have HP := Lib.hid hP
  have htx : textD 106 t = padC 3 (Lib.itoa (ydC t)) := rfl
  rw [htx]
  clear htx
  have hsm := seven_small ht ht2 (72)
  have HG := Lib.hid (fun W (hp : PowIs W) => rdigits_any (ydC t) 3 hsm.1 hsm.2 (by omega) (by omega) W hp)
  have HC := Lib.hid (fun W => ryearday_any t ht (by omega) W)
  clear hok q4 hP
  generalize hDD : dateC t = DD at *
  obtain ⟨y, m, d, h, mi, s⟩ := DD
  simp only [DT.v] at *
  go_enter Tryz.func40, Tryz.ntmps40
  go_wp2_with (first | (go_at_call 25; refine HD.out.mono ?_; rintro e w1 ⟨rfl, hb1⟩; obtain ⟨c0, c1, c2, c3, c4, c5⟩ := cells6_new w1 (.int .i64 y) (.int .i64 m) (.int .i64 d) (.int .i64 h) (.int .i64 mi) (.int .i64 s) 39; have HB := Lib.hid (hb1.alloc hb1.size (.cells #[.int .i64 y, .int .i64 m, .int .i64 d, .int .i64 h, .int .i64 mi, .int .i64 s] 39))) | (go_at_call 97; refine (HC.out _).mono ?_; rintro e w2 ⟨rfl, hb2⟩; replace HB := Lib.hid (HB.out.trans (hb2.mono HB.out.size)); clear hb2) | (go_at_call 96; refine (HG.out _ (HP.out.below HB.out)).mono ?_; rintro e w3 ⟨rfl, hb3⟩))
  go_ret2
  exact ⟨rfl, HB.out.trans (hb3.mono HB.out.size)⟩

set_option maxRecDepth 100000 in
set_option maxHeartbeats 1600000 in
theorem rl_117 (t : Int) (ht : -62135596800 ≤ t) (ht2 : t ≤ 253402300799) (w : World) (hP : PowIs w) :
    Calls Tryz.prog 40 #[.int .i64 t, .int .u8 117] w fun e w' => e = .returned (.tuple #[.string ⟨(textD 117 t).toArray⟩, .bool true]) ∧ Below w.heap.size w w' := by
  have hok := (dateC_ok ht).1
  have hyy := year_100000 ht (by omega)
  have q1 := hok.date.m1; have q2 := hok.date.m12; have q3 := hok.date.d1; have q4 := hok.date.dn; have q5 := dim_ge (dateC t).y (dateC t).m; have q4b : (dateC t).d ≤ 31 := by omega
  have q6 := hok.h0; have q7 := hok.h1; have q8 := hok.mi0; have q9 := hok.mi1; have q10 := hok.s0; have q11 := hok.s1
  have HD := Lib.hid (rdate_any t ht (by omega) w)
  have HP := Lib.hid hP
  have htx : textD 117 t = padC 1 (Lib.itoa (wdC t)) := rfl
  rw [htx]
  clear htx
  have hsm := seven_small ht ht2 (22)
  have HG := Lib.hid (fun W (hp : PowIs W) => rdigits_any (wdC t) 1 hsm.1 hsm.2 (by omega) (by omega) W hp)
  have HC := Lib.hid (fun W => rweekday_any t ht (by omega) W)
  clear hok q4 hP
  generalize hDD : dateC t = DD at *
  obtain ⟨y, m, d, h, mi, s⟩ := DD
  simp only [DT.v] at *
  go_enter Tryz.func40, Tryz.ntmps40
  go_wp2_with (first | (go_at_call 25; refine HD.out.mono ?_; rintro e w1 ⟨rfl, hb1⟩; obtain ⟨c0, c1, c2, c3, c4, c5⟩ := cells6_new w1 (.int .i64 y) (.int .i64 m) (.int .i64 d) (.int .i64 h) (.int .i64 mi) (.int .i64 s) 39; have HB := Lib.hid (hb1.alloc hb1.size (.cells #[.int .i64 y, .int .i64 m, .int .i64 d, .int .i64 h, .int .i64 mi, .int .i64 s] 39))) | (go_at_call 26; refine (HC.out _).mono ?_; rintro e w2 ⟨rfl, rfl⟩) | (go_at_call 96; refine (HG.out _ (HP.out.below HB.out)).mono ?_; rintro e w3 ⟨rfl, hb3⟩))
  go_ret2
  exact ⟨rfl, HB.out.trans (hb3.mono HB.out.size)⟩

set_option maxRecDepth 100000 in
set_option maxHeartbeats 1600000 in
theorem rl_71 (t : Int) (ht : -62135596800 ≤ t) (ht2 : t ≤ 253402300799) (w : World) (hP : PowIs w) :
    Calls Tryz.prog 40 #[.int .i64 t, .int .u8 71] w fun e w' => e = .returned (.tuple #[.string ⟨(textD 71 t).toArray⟩, .bool true]) ∧ Below w.heap.size w w' := by
  have hok := (dateC_ok ht).1
  have hyy := year_100000 ht (by omega)
  have q1 := hok.date.m1; have q2 := hok.date.m12; have q3 := hok.date.d1; have q4 := hok.date.dn; have q5 := dim_ge (dateC t).y (dateC t).m; have q4b : (dateC t).d ≤ 31 := by omega
  have q6 := hok.h0; have q7 := hok.h1; have q8 := hok.mi0; have q9 := hok.mi1; have q10 := hok.s0; have q11 := hok.s1
  have HD := Lib.hid (rdate_any t ht (by omega) w)
  have HP := Lib.hid hP
  have htx : textD 71 t = padC 4 (Lib.itoa (yearOf (thC t))) := rfl
  rw [htx]
  clear htx
  have hsm := seven_small ht ht2 (73)
  have HG := Lib.hid (fun W (hp : PowIs W) => rdigits_any (yearOf (thC t)) 4 hsm.1 hsm.2 (by omega) (by omega) W hp)
  have HC := Lib.hid (fun W => rweek_any t ht (by omega) W)
  clear hok q4 hP
  generalize hDD : dateC t = DD at *
  obtain ⟨y, m, d, h, mi, s⟩ := DD
  simp only [DT.v] at *
  go_enter Tryz.func40, Tryz.ntmps40
  go_wp2_with (first | (go_at_call 25; refine HD.out.mono ?_; rintro e w1 ⟨rfl, hb1⟩; obtain ⟨c0, c1, c2, c3, c4, c5⟩ := cells6_new w1 (.int .i64 y) (.int .i64 m) (.int .i64 d) (.int .i64 h) (.int .i64 mi) (.int .i64 s) 39; have HB := Lib.hid (hb1.alloc hb1.size (.cells #[.int .i64 y, .int .i64 m, .int .i64 d, .int .i64 h, .int .i64 mi, .int .i64 s] 39))) | (go_at_call 98; refine (HC.out _).mono ?_; rintro e w2 ⟨rfl, hb2⟩; replace HB := Lib.hid (HB.out.trans (hb2.mono HB.out.size)); clear hb2) | (go_at_call 96; refine (HG.out _ (HP.out.below HB.out)).mono ?_; rintro e w3 ⟨rfl, hb3⟩))
  go_ret2
  exact ⟨rfl, HB.out.trans (hb3.mono HB.out.size)⟩

set_option maxRecDepth 100000 in
set_option maxHeartbeats 1600000 in
theorem rl_86 (t : Int) (ht : -62135596800 ≤ t) (ht2 : t ≤ 253402300799) (w : World) (hP : PowIs w) :
    Calls Tryz.prog 40 #[.int .i64 t, .int .u8 86] w fun e w' => e = .returned (.tuple #[.string ⟨(textD 86 t).toArray⟩, .bool true]) ∧ Below w.heap.size w w' := by
  have hok := (dateC_ok ht).1
  have hyy := year_100000 ht (by omega)
  have q1 := hok.date.m1; have q2 := hok.date.m12; have q3 := hok.date.d1; have q4 := hok.date.dn; have q5 := dim_ge (dateC t).y (dateC t).m; have q4b : (dateC t).d ≤ 31 := by omega
  have q6 := hok.h0; have q7 := hok.h1; have q8 := hok.mi0; have q9 := hok.mi1; have q10 := hok.s0; have q11 := hok.s1
  have HD := Lib.hid (rdate_any t ht (by omega) w)
  have HP := Lib.hid hP
  have htx : textD 86 t = padC 2 (Lib.itoa (weekN t)) := rfl
  rw [htx]
  clear htx
  have hsm := seven_small ht ht2 (75)
  have HG := Lib.hid (fun W (hp : PowIs W) => rdigits_any (weekN t) 2 hsm.1 hsm.2 (by omega) (by omega) W hp)
  have HC := Lib.hid (fun W => rweek_any t ht (by omega) W)
  clear hok q4 hP
  generalize hDD : dateC t = DD at *
  obtain ⟨y, m, d, h, mi, s⟩ := DD
  simp only [DT.v] at *
  go_enter Tryz.func40, Tryz.ntmps40
  go_wp2_with (first | (go_at_call 25; refine HD.out.mono ?_; rintro e w1 ⟨rfl, hb1⟩; obtain ⟨c0, c1, c2, c3, c4, c5⟩ := cells6_new w1 (.int .i64 y) (.int .i64 m) (.int .i64 d) (.int .i64 h) (.int .i64 mi) (.int .i64 s) 39; have HB := Lib.hid (hb1.alloc hb1.size (.cells #[.int .i64 y, .int .i64 m, .int .i64 d, .int .i64 h, .int .i64 mi, .int .i64 s] 39))) | (go_at_call 98; refine (HC.out _).mono ?_; rintro e w2 ⟨rfl, hb2⟩; replace HB := Lib.hid (HB.out.trans (hb2.mono HB.out.size)); clear hb2) | (go_at_call 96; refine (HG.out _ (HP.out.below HB.out)).mono ?_; rintro e w3 ⟨rfl, hb3⟩))
  go_ret2
  exact ⟨rfl, HB.out.trans (hb3.mono HB.out.size)⟩

set_option maxRecDepth 100000 in
set_option maxHeartbeats 1600000 in
theorem rl_115 (t : Int) (ht : -62135596800 ≤ t) (ht2 : t ≤ 253402300799) (w : World) (hP : PowIs w) :
    Calls Tryz.prog 40 #[.int .i64 t, .int .u8 115] w fun e w' => e = .returned (.tuple #[.string ⟨(textD 115 t).toArray⟩, .bool true]) ∧ Below w.heap.size w w' := by
  have hok := (dateC_ok ht).1
  have hyy := year_100000 ht (by omega)
  have q1 := hok.date.m1; have q2 := hok.date.m12; have q3 := hok.date.d1; have q4 := hok.date.dn; have q5 := dim_ge (dateC t).y (dateC t).m; have q4b : (dateC t).d ≤ 31 := by omega
  have q6 := hok.h0; have q7 := hok.h1; have q8 := hok.mi0; have q9 := hok.mi1; have q10 := hok.s0; have q11 := hok.s1
  have HD := Lib.hid (rdate_any t ht (by omega) w)
  have HP := Lib.hid hP
  have htx : textD 115 t = Lib.itoa t := by
    show padC 0 (Lib.itoa t) = _
    exact padC_none (by omega)
  rw [htx]
  clear htx
  have HI := Lib.hid (fun W (hp : PowIs W) => itoa_any t (by omega) (by omega) W hp)
  clear hok q4 hP
  generalize hDD : dateC t = DD at *
  obtain ⟨y, m, d, h, mi, s⟩ := DD
  simp only [DT.v] at *
  go_enter Tryz.func40, Tryz.ntmps40
  go_wp2_with (first | (go_at_call 25; refine HD.out.mono ?_; rintro e w1 ⟨rfl, hb1⟩; obtain ⟨c0, c1, c2, c3, c4, c5⟩ := cells6_new w1 (.int .i64 y) (.int .i64 m) (.int .i64 d) (.int .i64 h) (.int .i64 mi) (.int .i64 s) 39; have HB := Lib.hid (hb1.alloc hb1.size (.cells #[.int .i64 y, .int .i64 m, .int .i64 d, .int .i64 h, .int .i64 mi, .int .i64 s] 39))) | (go_at_call 80; refine (HI.out _ (HP.out.below HB.out)).mono ?_; rintro e w2 ⟨rfl, hb2⟩))
  go_ret2
  exact ⟨rfl, HB.out.trans (hb2.mono HB.out.size)⟩

set_option maxRecDepth 100000 in
set_option maxHeartbeats 1600000 in
theorem rl_37 (t : Int) (ht : -62135596800 ≤ t) (ht2 : t ≤ 253402300799) (w : World) (hP : PowIs w) :
    Calls Tryz.prog 40 #[.int .i64 t, .int .u8 37] w fun e w' => e = .returned (.tuple #[.string ⟨(([37] : Bs)).toArray⟩, .bool true]) ∧ Below w.heap.size w w' := by
  have hok := (dateC_ok ht).1
  have hyy := year_100000 ht (by omega)
  have q1 := hok.date.m1; have q2 := hok.date.m12; have q3 := hok.date.d1; have q4 := hok.date.dn; have q5 := dim_ge (dateC t).y (dateC t).m; have q4b : (dateC t).d ≤ 31 := by omega
  have q6 := hok.h0; have q7 := hok.h1; have q8 := hok.mi0; have q9 := hok.mi1; have q10 := hok.s0; have q11 := hok.s1
  have HD := Lib.hid (rdate_any t ht (by omega) w)
  have HP := Lib.hid hP
  clear hok q4 hP
  generalize hDD : dateC t = DD at *
  obtain ⟨y, m, d, h, mi, s⟩ := DD
  simp only [DT.v] at *
  go_enter Tryz.func40, Tryz.ntmps40
  go_wp2_with (go_at_call 25; refine HD.out.mono ?_; rintro e w1 ⟨rfl, hb1⟩; obtain ⟨c0, c1, c2, c3, c4, c5⟩ := cells6_new w1 (.int .i64 y) (.int .i64 m) (.int .i64 d) (.int .i64 h) (.int .i64 mi) (.int .i64 s) 39; have HB := Lib.hid (hb1.alloc hb1.size (.cells #[.int .i64 y, .int .i64 m, .int .i64 d, .int .i64 h, .int .i64 mi, .int .i64 s] 39)))
  go_ret2
  exact ⟨rfl, HB.out⟩
end Go.Proofs.YtkahakhhdiffcaaGreatDoor
namespace Go.Proofs.YtkahakhhdiffcaaGreatDoor
set_option linter.unusedVariables false
set_option linter.unusedSimpArgs false
open Go.RowKit
attribute [local go_sem] ba_append ba_get ba_extract take_drop_all

theorem short12 : ∀ k : Nat, k < 12 → (monthsL.map (·.take 3)).getD k [] = (monthsL.getD k []).take 3 := by decide
theorem get12 : ∀ k : Nat, k < 12 → monthsL[k]? = some (monthsL.getD k []) := by decide
theorem long12 : ∀ k : Nat, k < 12 → 3 ≤ (monthsL.getD k []).length ∧ (monthsL.getD k []).length ≤ 20 := by decide
theorem short7 : ∀ k : Nat, k < 7 → (weekdaysL.map (·.take 3)).getD k [] = (weekdaysL.getD k []).take 3 := by decide
theorem get7 : ∀ k : Nat, k < 7 → weekdaysL[k]? = some (weekdaysL.getD k []) := by decide
theorem long7 : ∀ k : Nat, k < 7 → 3 ≤ (weekdaysL.getD k []).length ∧ (weekdaysL.getD k []).length ≤ 20 := by decide

set_option maxRecDepth 100000 in
set_option maxHeartbeats 1600000 in
theorem rl_66 (t : Int) (ht : -62135596800 ≤ t) (ht2 : t ≤ 253402300799) (w : World) (hP : PowIs w) :
    Calls Tryz.prog 40 #[.int .i64 t, .int .u8 66] w fun e w' => e = .returned (.tuple #[.string ⟨(textD 66 t).toArray⟩, .bool true]) ∧ Below w.heap.size w w' := by
  have hok := (dateC_ok ht).1
  have q1 := hok.date.m1; have q2 := hok.date.m12
  have HD := Lib.hid (rdate_any t ht (by omega) w)
  obtain ⟨k, hk⟩ : ∃ k : Nat, (dateC t).m = k + 1 := ⟨((dateC t).m - 1).toNat, by omega⟩
  have htx : textD 66 t = monthsL.getD k [] := by
    show monthsL.getD ((dateC t).m - 1).toNat [] = _
    rw [hk, show ((k : Int) + 1 - 1).toNat = k by omega]
  have hk12 : k < 12 := by omega
  have hx : monthsL[k]? = some (monthsL.getD k []) := get12 k hk12
  have hx3 := (long12 k hk12).1
  have hx4 := (long12 k hk12).2
  rw [htx]
  clear htx hok
  generalize monthsL.getD k [] = x at *
  generalize hDD : dateC t = DD at *
  obtain ⟨y, m, d, h, mi, s⟩ := DD
  simp only [DT.v] at *
  have hm1 : m - 1 = (k : Int) := by omega
  have hwr : IntKind.i64.wrap (k : Int) = (k : Int) := by simp [IntKind.wrap, IntKind.bits, IntKind.signed]; omega
  have HX := Lib.hid hx
  have HM := Lib.hid (fun W => rmonths_any W)
  have hk12i : (k : Int) < 12 := by omega
  clear hx hk
  go_enter Tryz.func40, Tryz.ntmps40
  go_wp2_with ((go_at_call 25; refine HD.out.mono ?_; rintro e w1 ⟨rfl, hb1⟩; obtain ⟨c0, c1, c2, c3, c4, c5⟩ := cells6_new w1 (.int .i64 y) (.int .i64 m) (.int .i64 d) (.int .i64 h) (.int .i64 mi) (.int .i64 s) 39; have HB := Lib.hid (hb1.alloc hb1.size (.cells #[.int .i64 y, .int .i64 m, .int .i64 d, .int .i64 h, .int .i64 mi, .int .i64 s] 39))))
  obtain ⟨w2, hw2⟩ : ∃ w2, w1.alloc (.cells #[.int .i64 y, .int .i64 m, .int .i64 d, .int .i64 h, .int .i64 mi, .int .i64 s] 39) = w2 := ⟨_, rfl⟩
  have hs2 : w1.heap.size < w2.heap.size := by rw [← hw2]; simp
  generalize w1.heap.size = B at *
  rw [hw2] at c1 HB ⊢
  clear c0 c2 c3 c4 c5 hw2
  go_region_with (go_at_call 99; refine (HM.out _).mono ?_; rintro e w3 ⟨rfl, hrow, hb3⟩; have c1b := (hb3.cell (p := ⟨B, 1, none⟩) (by simpa using hs2)).trans (by simpa using c1); have hck := hrow k _ HX.out; simp at hck; have HB3 := Lib.hid ((below_drewN HB.out 1).trans (hb3.mono (by simpa using HB.out.size))); clear hrow hb3)
  all_goals (go_wp2_with fail; go_ret2; exact ⟨rfl, HB3.out⟩)

set_option maxRecDepth 100000 in
set_option maxHeartbeats 1600000 in
theorem rl_98 (t : Int) (ht : -62135596800 ≤ t) (ht2 : t ≤ 253402300799) (w : World) (hP : PowIs w) :
    Calls Tryz.prog 40 #[.int .i64 t, .int .u8 98] w fun e w' => e = .returned (.tuple #[.string ⟨(textD 98 t).toArray⟩, .bool true]) ∧ Below w.heap.size w w' := by
  have hok := (dateC_ok ht).1
  have q1 := hok.date.m1; have q2 := hok.date.m12
  have HD := Lib.hid (rdate_any t ht (by omega) w)
  obtain ⟨k, hk⟩ : ∃ k : Nat, (dateC t).m = k + 1 := ⟨((dateC t).m - 1).toNat, by omega⟩
  have htx : textD 98 t = (monthsL.getD k []).take 3 := by
    show (monthsL.map (·.take 3)).getD ((dateC t).m - 1).toNat [] = _
    rw [hk, show ((k : Int) + 1 - 1).toNat = k by omega]
    exact short12 k (by omega)
  have hk12 : k < 12 := by omega
  have hx : monthsL[k]? = some (monthsL.getD k []) := get12 k hk12
  have hx3 := (long12 k hk12).1
  have hx4 := (long12 k hk12).2
  rw [htx]
  clear htx hok
  generalize monthsL.getD k [] = x at *
  generalize hDD : dateC t = DD at *
  obtain ⟨y, m, d, h, mi, s⟩ := DD
  simp only [DT.v] at *
  have hm1 : m - 1 = (k : Int) := by omega
  have hwr : IntKind.i64.wrap (k : Int) = (k : Int) := by simp [IntKind.wrap, IntKind.bits, IntKind.signed]; omega
  have HX := Lib.hid hx
  have HM := Lib.hid (fun W => rmonths_any W)
  have hk12i : (k : Int) < 12 := by omega
  clear hx hk
  go_enter Tryz.func40, Tryz.ntmps40
  go_wp2_with ((go_at_call 25; refine HD.out.mono ?_; rintro e w1 ⟨rfl, hb1⟩; obtain ⟨c0, c1, c2, c3, c4, c5⟩ := cells6_new w1 (.int .i64 y) (.int .i64 m) (.int .i64 d) (.int .i64 h) (.int .i64 mi) (.int .i64 s) 39; have HB := Lib.hid (hb1.alloc hb1.size (.cells #[.int .i64 y, .int .i64 m, .int .i64 d, .int .i64 h, .int .i64 mi, .int .i64 s] 39))))
  obtain ⟨w2, hw2⟩ : ∃ w2, w1.alloc (.cells #[.int .i64 y, .int .i64 m, .int .i64 d, .int .i64 h, .int .i64 mi, .int .i64 s] 39) = w2 := ⟨_, rfl⟩
  have hs2 : w1.heap.size < w2.heap.size := by rw [← hw2]; simp
  generalize w1.heap.size = B at *
  rw [hw2] at c1 HB ⊢
  clear c0 c2 c3 c4 c5 hw2
  go_region_with (go_at_call 99; refine (HM.out _).mono ?_; rintro e w3 ⟨rfl, hrow, hb3⟩; have c1b := (hb3.cell (p := ⟨B, 1, none⟩) (by simpa using hs2)).trans (by simpa using c1); have hck := hrow k _ HX.out; simp at hck; have HB3 := Lib.hid ((below_drewN HB.out 1).trans (hb3.mono (by simpa using HB.out.size))); clear hrow hb3)
  all_goals (go_wp2_with fail; go_ret2; exact ⟨rfl, HB3.out⟩)

set_option maxRecDepth 100000 in
set_option maxHeartbeats 1600000 in
theorem rl_65 (t : Int) (ht : -62135596800 ≤ t) (ht2 : t ≤ 253402300799) (w : World) (hP : PowIs w) :
    Calls Tryz.prog 40 #[.int .i64 t, .int .u8 65] w fun e w' => e = .returned (.tuple #[.string ⟨(textD 65 t).toArray⟩, .bool true]) ∧ Below w.heap.size w w' := by
  have hok := (dateC_ok ht).1
  have HD := Lib.hid (rdate_any t ht (by omega) w)
  have hw1 : 1 ≤ wdC t ∧ wdC t ≤ 7 := by unfold wdC; omega
  obtain ⟨k, hk⟩ : ∃ k : Nat, wdC t = k + 1 := ⟨(wdC t - 1).toNat, by omega⟩
  have htx : textD 65 t = weekdaysL.getD k [] := by
    show weekdaysL.getD (wdC t - 1).toNat [] = _
    rw [hk, show ((k : Int) + 1 - 1).toNat = k by omega]
  have hk7 : k < 7 := by omega
  have hx : weekdaysL[k]? = some (weekdaysL.getD k []) := get7 k hk7
  have hx3 := (long7 k hk7).1
  have hx4 := (long7 k hk7).2
  rw [htx]
  have HWD := Lib.hid (fun W => rweekday_any t ht (by omega) W)
  rw [hk] at HWD
  clear htx hok
  generalize weekdaysL.getD k [] = x at *
  generalize hDD : dateC t = DD at *
  obtain ⟨y, m, d, h, mi, s⟩ := DD
  simp only [DT.v] at *
  have HX := Lib.hid hx
  have HM := Lib.hid (fun W => rweekdays_any W)
  have hk7i : (k : Int) < 7 := by omega
  clear hx hk hw1
  go_enter Tryz.func40, Tryz.ntmps40
  go_wp2_with (first | (go_at_call 25; refine HD.out.mono ?_; rintro e w1 ⟨rfl, hb1⟩; obtain ⟨c0, c1, c2, c3, c4, c5⟩ := cells6_new w1 (.int .i64 y) (.int .i64 m) (.int .i64 d) (.int .i64 h) (.int .i64 mi) (.int .i64 s) 39; have HB := Lib.hid (hb1.alloc hb1.size (.cells #[.int .i64 y, .int .i64 m, .int .i64 d, .int .i64 h, .int .i64 mi, .int .i64 s] 39))) | (go_at_call 100; refine (HM.out _).mono ?_; rintro e w3 ⟨rfl, hrow, hb3⟩; have hck := hrow k _ HX.out; simp at hck; have HB3 := Lib.hid (HB.out.trans (hb3.mono HB.out.size)); clear hrow hb3) | (go_at_call 26; refine (HWD.out _).mono ?_; rintro e w4 ⟨rfl, rfl⟩))
  go_ret2
  exact ⟨rfl, HB3.out⟩

set_option maxRecDepth 100000 in
set_option maxHeartbeats 1600000 in
theorem rl_97 (t : Int) (ht : -62135596800 ≤ t) (ht2 : t ≤ 253402300799) (w : World) (hP : PowIs w) :
    Calls Tryz.prog 40 #[.int .i64 t, .int .u8 97] w fun e w' => e = .returned (.tuple #[.string ⟨(textD 97 t).toArray⟩, .bool true]) ∧ Below w.heap.size w w' := by
  have hok := (dateC_ok ht).1
  have HD := Lib.hid (rdate_any t ht (by omega) w)
  have hw1 : 1 ≤ wdC t ∧ wdC t ≤ 7 := by unfold wdC; omega
  obtain ⟨k, hk⟩ : ∃ k : Nat, wdC t = k + 1 := ⟨(wdC t - 1).toNat, by omega⟩
  have htx : textD 97 t = (weekdaysL.getD k []).take 3 := by
    show (weekdaysL.map (·.take 3)).getD (wdC t - 1).toNat [] = _
    rw [hk, show ((k : Int) + 1 - 1).toNat = k by omega]
    exact short7 k (by omega)
  have hk7 : k < 7 := by omega
  have hx : weekdaysL[k]? = some (weekdaysL.getD k []) := get7 k hk7
  have hx3 := (long7 k hk7).1
  have hx4 := (long7 k hk7).2
  rw [htx]
  have HWD := Lib.hid (fun W => rweekday_any t ht (by omega) W)
  rw [hk] at HWD
  clear htx hok
  generalize weekdaysL.getD k [] = x at *
  generalize hDD : dateC t = DD at *
  obtain ⟨y, m, d, h, mi, s⟩ := DD
  simp only [DT.v] at *
  have HX := Lib.hid hx
  have HM := Lib.hid (fun W => rweekdays_any W)
  have hk7i : (k : Int) < 7 := by omega
  clear hx hk hw1
  go_enter Tryz.func40, Tryz.ntmps40
  go_wp2_with (first | (go_at_call 25; refine HD.out.mono ?_; rintro e w1 ⟨rfl, hb1⟩; obtain ⟨c0, c1, c2, c3, c4, c5⟩ := cells6_new w1 (.int .i64 y) (.int .i64 m) (.int .i64 d) (.int .i64 h) (.int .i64 mi) (.int .i64 s) 39; have HB := Lib.hid (hb1.alloc hb1.size (.cells #[.int .i64 y, .int .i64 m, .int .i64 d, .int .i64 h, .int .i64 mi, .int .i64 s] 39))) | (go_at_call 100; refine (HM.out _).mono ?_; rintro e w3 ⟨rfl, hrow, hb3⟩; have hck := hrow k _ HX.out; simp at hck; have HB3 := Lib.hid (HB.out.trans (hb3.mono HB.out.size)); clear hrow hb3) | (go_at_call 26; refine (HWD.out _).mono ?_; rintro e w4 ⟨rfl, rfl⟩))
  go_ret2
  exact ⟨rfl, HB3.out⟩

set_option maxRecDepth 100000 in
set_option maxHeartbeats 1600000 in
theorem rl_none (u : UInt8) (h37 : u ≠ 37) (hn : (info (u.toNat : Int)).isSome = false) (t : Int) (ht : -62135596800 ≤ t) (ht2 : t ≤ 253402300799) (w : World) :
    Calls Tryz.prog 40 #[.int .i64 t, .int .u8 (u.toNat : Int)] w fun e w' => e = .returned (.tuple #[.string ⟨([] : Bs).toArray⟩, .bool false]) ∧ Below w.heap.size w w' := by
  have HD := Lib.hid (rdate_any t ht (by omega) w)
  have hm := (not_congr (key_info u)).2 (by rw [hn]; exact Bool.false_ne_true)
  have b37 := u8_ne (k := 37) (by decide) h37
  generalize (u.toNat : Int) = c at *
  simp only [keysC, List.mem_cons, List.not_mem_nil, or_false, not_or] at hm
  obtain ⟨a0, a1, a2, a3, a4, a5, a6, a7, a8, a9, a10, a11, a12, a13, a14, a15, a16, a17, a18⟩ := hm
  have b89 : (c == 89) = false := beq_eq_false_iff_ne.2 (by assumption)
  have b121 : (c == 121) = false := beq_eq_false_iff_ne.2 (by assumption)
  have b109 : (c == 109) = false := beq_eq_false_iff_ne.2 (by assumption)
  have b100 : (c == 100) = false := beq_eq_false_iff_ne.2 (by assumption)
  have b72 : (c == 72) = false := beq_eq_false_iff_ne.2 (by assumption)
  have b77 : (c == 77) = false := beq_eq_false_iff_ne.2 (by assumption)
  have b83 : (c == 83) = false := beq_eq_false_iff_ne.2 (by assumption)
  have b101 : (c == 101) = false := beq_eq_false_iff_ne.2 (by assumption)
  have b73 : (c == 73) = false := beq_eq_false_iff_ne.2 (by assumption)
  have b112 : (c == 112) = false := beq_eq_false_iff_ne.2 (by assumption)
  have b106 : (c == 106) = false := beq_eq_false_iff_ne.2 (by assumption)
  have b117 : (c == 117) = false := beq_eq_false_iff_ne.2 (by assumption)
  have b71 : (c == 71) = false := beq_eq_false_iff_ne.2 (by assumption)
  have b86 : (c == 86) = false := beq_eq_false_iff_ne.2 (by assumption)
  have b66 : (c == 66) = false := beq_eq_false_iff_ne.2 (by assumption)
  have b98 : (c == 98) = false := beq_eq_false_iff_ne.2 (by assumption)
  have b65 : (c == 65) = false := beq_eq_false_iff_ne.2 (by assumption)
  have b97 : (c == 97) = false := beq_eq_false_iff_ne.2 (by assumption)
  have b115 : (c == 115) = false := beq_eq_false_iff_ne.2 (by assumption)
  clear a0 a1 a2 a3 a4 a5 a6 a7 a8 a9 a10 a11 a12 a13 a14 a15 a16 a17 a18 hn h37
  generalize hDD : dateC t = DD at *
  obtain ⟨y, m, d, h, mi, s⟩ := DD
  simp only [DT.v] at *
  go_enter Tryz.func40, Tryz.ntmps40
  go_wp2_with ((go_at_call 25; refine HD.out.mono ?_; rintro e w1 ⟨rfl, hb1⟩; obtain ⟨c0, c1, c2, c3, c4, c5⟩ := cells6_new w1 (.int .i64 y) (.int .i64 m) (.int .i64 d) (.int .i64 h) (.int .i64 mi) (.int .i64 s) 39; have HB := Lib.hid (hb1.alloc hb1.size (.cells #[.int .i64 y, .int .i64 m, .int .i64 d, .int .i64 h, .int .i64 mi, .int .i64 s] 39))))
  go_ret2
  exact ⟨rfl, HB.out⟩
/-- What a letter writes in the reference. -/
noncomputable def rletC (u : UInt8) (t : Int) : Bs := if u = 37 then [37] else textD u t
def known (u : UInt8) : Bool := u = 37 || (info (u.toNat : Int)).isSome
set_option maxRecDepth 100000 in
theorem rletter_any (u : UInt8) (t : Int) (ht : -62135596800 ≤ t) (ht2 : t ≤ 253402300799) (w : World) (hP : PowIs w) :
    Calls Tryz.prog 40 #[.int .i64 t, .int .u8 (u.toNat : Int)] w fun e w' => e = .returned (.tuple #[.string ⟨(rletC u t).toArray⟩, .bool (known u)]) ∧ Below w.heap.size w w' := by
  by_cases h37 : u = 37
  · subst h37; exact rl_37 t ht ht2 w hP
  · have hr : rletC u t = textD u t := if_neg h37
    have hk : known u = (info (u.toNat : Int)).isSome := by unfold known; rw [decide_eq_false h37]; rfl
    rw [hr, hk]
    cases hi : (info (u.toNat : Int)).isSome with
    | false =>
      have : textD u t = [] := by
        unfold textD
        cases h : info (u.toNat : Int) with
        | none => rfl
        | some i => rw [h] at hi; cases hi
      rw [this]
      exact rl_none u h37 hi t ht ht2 w
    | true =>
      have hm := (key_info u).2 hi
      have hu : ∀ k : Nat, k < 256 → (u.toNat : Int) = (k : Int) → u = UInt8.ofNat k := fun k hk h => by
        apply UInt8.toNat_inj.1
        have : u.toNat = k := by omega
        rw [this]; simp [UInt8.toNat_ofNat']; omega
      simp only [keysC, List.mem_cons, List.not_mem_nil, or_false] at hm
      clear hi hk hr h37
      rcases hm with h | h | h | h | h | h | h | h | h | h | h | h | h | h | h | h | h | h | h
      · obtain rfl := hu 115 (by decide) h; exact rl_115 t ht ht2 w hP
      · obtain rfl := hu 97 (by decide) h; exact rl_97 t ht ht2 w hP
      · obtain rfl := hu 65 (by decide) h; exact rl_65 t ht ht2 w hP
      · obtain rfl := hu 98 (by decide) h; exact rl_98 t ht ht2 w hP
      · obtain rfl := hu 66 (by decide) h; exact rl_66 t ht ht2 w hP
      · obtain rfl := hu 86 (by decide) h; exact rl_86 t ht ht2 w hP
      · obtain rfl := hu 71 (by decide) h; exact rl_71 t ht ht2 w hP
      · obtain rfl := hu 117 (by decide) h; exact rl_117 t ht ht2 w hP
      · obtain rfl := hu 106 (by decide) h; exact rl_106 t ht ht2 w hP
      · obtain rfl := hu 112 (by decide) h; exact rl_112 t ht ht2 w hP
      · obtain rfl := hu 73 (by decide) h; exact rl_73 t ht ht2 w hP
      · obtain rfl := hu 101 (by decide) h; exact rl_101 t ht ht2 w hP
      · obtain rfl := hu 83 (by decide) h; exact rl_83 t ht ht2 w hP
      · obtain rfl := hu 77 (by decide) h; exact rl_77 t ht ht2 w hP
      · obtain rfl := hu 72 (by decide) h; exact rl_72 t ht ht2 w hP
      · obtain rfl := hu 100 (by decide) h; exact rl_100 t ht ht2 w hP
      · obtain rfl := hu 109 (by decide) h; exact rl_109 t ht ht2 w hP
      · obtain rfl := hu 121 (by decide) h; exact rl_121 t ht ht2 w hP
      · obtain rfl := hu 89 (by decide) h; exact rl_89 t ht ht2 w hP
end Go.Proofs.YtkahakhhdiffcaaGreatDoor
