/- Contracts of what the reference's letters write. -/
import Derived.Test.YtmidphmniikdpaaDoorCRLet1
import Derived.Deep.RegionWith
namespace Go.Proofs.YtmidphmniikdpaaDoor
set_option linter.unusedVariables false
set_option linter.unusedSimpArgs false
open Go.RowKit
attribute [local go_sem] ba_append

set_option maxRecDepth 100000 in
set_option maxHeartbeats 1600000 in
theorem rl_89 (t : Int) (ht : -62135596800 ≤ t) (ht2 : t ≤ 253402300799) (w : World) (hP : PowIs w) :
    Calls Tryd.prog 46 #[.int .i64 t, .int .u8 89] w fun e w' => e = .returned (.tuple #[.string ⟨(textD 89 t).toArray⟩, .bool true]) ∧ Below w.heap.size w w' := by
  have hok := (dateC_ok ht).1
  have hyy := year_100000 ht (by omega)
  have q1 := hok.date.m1; have q2 := hok.date.m12; have q3 := hok.date.d1; have q4 := hok.date.dn; have q5 := dim_ge (dateC t).y (dateC t).m; have q4b : (dateC t).d ≤ 31 := by omega
  have q6 := hok.h0; have q7 := hok.h1; have q8 := hok.mi0; have q9 := hok.mi1; have q10 := hok.s0; have q11 := hok.s1
  have HD := Lib.hid (rdate_any t ht (by omega) w)
  have HP := Lib.hid hP
  have htx : textD 89 t = padC 4 (Lib.itoa ((dateC t).y)) := rfl
  rw [htx]
  clear htx hok q4 hP ht ht2
  generalize dateC t = DD at *
  obtain ⟨y, m, d, h, mi, s⟩ := DD
  simp only [DT.v] at *
  have HG := Lib.hid (fun W (hp : PowIs W) => rdigits_any (y) 4 (by omega) (by omega) (by omega) (by omega) W hp)
  go_enter Tryd.func46, Tryd.ntmps46
  go_wp2_with (first | (go_at_call 54; refine HD.out.mono ?_; rintro e w1 ⟨rfl, hb1⟩; obtain ⟨c0, c1, c2, c3, c4, c5⟩ := cells6_new w1 (.int .i64 y) (.int .i64 m) (.int .i64 d) (.int .i64 h) (.int .i64 mi) (.int .i64 s) 30; have HB := Lib.hid (hb1.alloc hb1.size (.cells #[.int .i64 y, .int .i64 m, .int .i64 d, .int .i64 h, .int .i64 mi, .int .i64 s] 30))) | (go_at_call 90; refine (HG.out _ (HP.out.below HB.out)).mono ?_; rintro e w2 ⟨rfl, hb2⟩))
  go_ret2
  exact ⟨rfl, HB.out.trans (hb2.mono HB.out.size)⟩

set_option maxRecDepth 100000 in
set_option maxHeartbeats 1600000 in
theorem rl_121 (t : Int) (ht : -62135596800 ≤ t) (ht2 : t ≤ 253402300799) (w : World) (hP : PowIs w) :
    Calls Tryd.prog 46 #[.int .i64 t, .int .u8 121] w fun e w' => e = .returned (.tuple #[.string ⟨(textD 121 t).toArray⟩, .bool true]) ∧ Below w.heap.size w w' := by
  have hok := (dateC_ok ht).1
  have hyy := year_100000 ht (by omega)
  have q1 := hok.date.m1; have q2 := hok.date.m12; have q3 := hok.date.d1; have q4 := hok.date.dn; have q5 := dim_ge (dateC t).y (dateC t).m; have q4b : (dateC t).d ≤ 31 := by omega
  have q6 := hok.h0; have q7 := hok.h1; have q8 := hok.mi0; have q9 := hok.mi1; have q10 := hok.s0; have q11 := hok.s1
  have HD := Lib.hid (rdate_any t ht (by omega) w)
  have HP := Lib.hid hP
  have htx : textD 121 t = padC 2 (Lib.itoa ((dateC t).y % 100)) := rfl
  rw [htx]
  clear htx hok q4 hP ht ht2
  generalize dateC t = DD at *
  obtain ⟨y, m, d, h, mi, s⟩ := DD
  simp only [DT.v] at *
  have HG := Lib.hid (fun W (hp : PowIs W) => rdigits_any (y % 100) 2 (by omega) (by omega) (by omega) (by omega) W hp)
  generalize hv : y % 100 = v at *
  have hv2 : y.tmod 100 = v := by rw [Int.tmod_eq_emod_of_nonneg (by omega)]; exact hv
  go_enter Tryd.func46, Tryd.ntmps46
  go_wp2_with (first | (go_at_call 54; refine HD.out.mono ?_; rintro e w1 ⟨rfl, hb1⟩; obtain ⟨c0, c1, c2, c3, c4, c5⟩ := cells6_new w1 (.int .i64 y) (.int .i64 m) (.int .i64 d) (.int .i64 h) (.int .i64 mi) (.int .i64 s) 30; have HB := Lib.hid (hb1.alloc hb1.size (.cells #[.int .i64 y, .int .i64 m, .int .i64 d, .int .i64 h, .int .i64 mi, .int .i64 s] 30))) | (go_at_call 90; refine (HG.out _ (HP.out.below HB.out)).mono ?_; rintro e w2 ⟨rfl, hb2⟩))
  go_ret2
  exact ⟨rfl, HB.out.trans (hb2.mono HB.out.size)⟩

set_option maxRecDepth 100000 in
set_option maxHeartbeats 1600000 in
theorem rl_109 (t : Int) (ht : -62135596800 ≤ t) (ht2 : t ≤ 253402300799) (w : World) (hP : PowIs w) :
    Calls Tryd.prog 46 #[.int .i64 t, .int .u8 109] w fun e w' => e = .returned (.tuple #[.string ⟨(textD 109 t).toArray⟩, .bool true]) ∧ Below w.heap.size w w' := by
  have hok := (dateC_ok ht).1
  have hyy := year_100000 ht (by omega)
  have q1 := hok.date.m1; have q2 := hok.date.m12; have q3 := hok.date.d1; have q4 := hok.date.dn; have q5 := dim_ge (dateC t).y (dateC t).m; have q4b : (dateC t).d ≤ 31 := by omega
  have q6 := hok.h0; have q7 := hok.h1; have q8 := hok.mi0; have q9 := hok.mi1; have q10 := hok.s0; have q11 := hok.s1
  have HD := Lib.hid (rdate_any t ht (by omega) w)
  have HP := Lib.hid hP
  have htx : textD 109 t = padC 2 (Lib.itoa ((dateC t).m)) := rfl
  rw [htx]
  clear htx hok q4 hP ht ht2
  generalize dateC t = DD at *
  obtain ⟨y, m, d, h, mi, s⟩ := DD
  simp only [DT.v] at *
  have HG := Lib.hid (fun W (hp : PowIs W) => rdigits_any (m) 2 (by omega) (by omega) (by omega) (by omega) W hp)
  go_enter Tryd.func46, Tryd.ntmps46
  go_wp2_with (first | (go_at_call 54; refine HD.out.mono ?_; rintro e w1 ⟨rfl, hb1⟩; obtain ⟨c0, c1, c2, c3, c4, c5⟩ := cells6_new w1 (.int .i64 y) (.int .i64 m) (.int .i64 d) (.int .i64 h) (.int .i64 mi) (.int .i64 s) 30; have HB := Lib.hid (hb1.alloc hb1.size (.cells #[.int .i64 y, .int .i64 m, .int .i64 d, .int .i64 h, .int .i64 mi, .int .i64 s] 30))) | (go_at_call 90; refine (HG.out _ (HP.out.below HB.out)).mono ?_; rintro e w2 ⟨rfl, hb2⟩))
  go_ret2
  exact ⟨rfl, HB.out.trans (hb2.mono HB.out.size)⟩

set_option maxRecDepth 100000 in
set_option maxHeartbeats 1600000 in
theorem rl_100 (t : Int) (ht : -62135596800 ≤ t) (ht2 : t ≤ 253402300799) (w : World) (hP : PowIs w) :
    Calls Tryd.prog 46 #[.int .i64 t, .int .u8 100] w fun e w' => e = .returned (.tuple #[.string ⟨(textD 100 t).toArray⟩, .bool true]) ∧ Below w.heap.size w w' := by
  have hok := (dateC_ok ht).1
  have hyy := year_100000 ht (by omega)
  have q1 := hok.date.m1; have q2 := hok.date.m12; have q3 := hok.date.d1; have q4 := hok.date.dn; have q5 := dim_ge (dateC t).y (dateC t).m; have q4b : (dateC t).d ≤ 31 := by omega
  have q6 := hok.h0; have q7 := hok.h1; have q8 := hok.mi0; have q9 := hok.mi1; have q10 := hok.s0; have q11 := hok.s1
  have HD := Lib.hid (rdate_any t ht (by omega) w)
  have HP := Lib.hid hP
  have htx : textD 100 t = padC 2 (Lib.itoa ((dateC t).d)) := rfl
  rw [htx]
  clear htx hok q4 hP ht ht2
  generalize dateC t = DD at *
  obtain ⟨y, m, d, h, mi, s⟩ := DD
  simp only [DT.v] at *
  have HG := Lib.hid (fun W (hp : PowIs W) => rdigits_any (d) 2 (by omega) (by omega) (by omega) (by omega) W hp)
  go_enter Tryd.func46, Tryd.ntmps46
  go_wp2_with (first | (go_at_call 54; refine HD.out.mono ?_; rintro e w1 ⟨rfl, hb1⟩; obtain ⟨c0, c1, c2, c3, c4, c5⟩ := cells6_new w1 (.int .i64 y) (.int .i64 m) (.int .i64 d) (.int .i64 h) (.int .i64 mi) (.int .i64 s) 30; have HB := Lib.hid (hb1.alloc hb1.size (.cells #[.int .i64 y, .int .i64 m, .int .i64 d, .int .i64 h, .int .i64 mi, .int .i64 s] 30))) | (go_at_call 90; refine (HG.out _ (HP.out.below HB.out)).mono ?_; rintro e w2 ⟨rfl, hb2⟩))
  go_ret2
  exact ⟨rfl, HB.out.trans (hb2.mono HB.out.size)⟩

set_option maxRecDepth 100000 in
set_option maxHeartbeats 1600000 in
theorem rl_72 (t : Int) (ht : -62135596800 ≤ t) (ht2 : t ≤ 253402300799) (w : World) (hP : PowIs w) :
    Calls Tryd.prog 46 #[.int .i64 t, .int .u8 72] w fun e w' => e = .returned (.tuple #[.string ⟨(textD 72 t).toArray⟩, .bool true]) ∧ Below w.heap.size w w' := by
  have hok := (dateC_ok ht).1
  have hyy := year_100000 ht (by omega)
  have q1 := hok.date.m1; have q2 := hok.date.m12; have q3 := hok.date.d1; have q4 := hok.date.dn; have q5 := dim_ge (dateC t).y (dateC t).m; have q4b : (dateC t).d ≤ 31 := by omega
  have q6 := hok.h0; have q7 := hok.h1; have q8 := hok.mi0; have q9 := hok.mi1; have q10 := hok.s0; have q11 := hok.s1
  have HD := Lib.hid (rdate_any t ht (by omega) w)
  have HP := Lib.hid hP
  have htx : textD 72 t = padC 2 (Lib.itoa ((dateC t).h)) := rfl
  rw [htx]
  clear htx hok q4 hP ht ht2
  generalize dateC t = DD at *
  obtain ⟨y, m, d, h, mi, s⟩ := DD
  simp only [DT.v] at *
  have HG := Lib.hid (fun W (hp : PowIs W) => rdigits_any (h) 2 (by omega) (by omega) (by omega) (by omega) W hp)
  go_enter Tryd.func46, Tryd.ntmps46
  go_wp2_with (first | (go_at_call 54; refine HD.out.mono ?_; rintro e w1 ⟨rfl, hb1⟩; obtain ⟨c0, c1, c2, c3, c4, c5⟩ := cells6_new w1 (.int .i64 y) (.int .i64 m) (.int .i64 d) (.int .i64 h) (.int .i64 mi) (.int .i64 s) 30; have HB := Lib.hid (hb1.alloc hb1.size (.cells #[.int .i64 y, .int .i64 m, .int .i64 d, .int .i64 h, .int .i64 mi, .int .i64 s] 30))) | (go_at_call 90; refine (HG.out _ (HP.out.below HB.out)).mono ?_; rintro e w2 ⟨rfl, hb2⟩))
  go_ret2
  exact ⟨rfl, HB.out.trans (hb2.mono HB.out.size)⟩

set_option maxRecDepth 100000 in
set_option maxHeartbeats 1600000 in
theorem rl_77 (t : Int) (ht : -62135596800 ≤ t) (ht2 : t ≤ 253402300799) (w : World) (hP : PowIs w) :
    Calls Tryd.prog 46 #[.int .i64 t, .int .u8 77] w fun e w' => e = .returned (.tuple #[.string ⟨(textD 77 t).toArray⟩, .bool true]) ∧ Below w.heap.size w w' := by
  have hok := (dateC_ok ht).1
  have hyy := year_100000 ht (by omega)
  have q1 := hok.date.m1; have q2 := hok.date.m12; have q3 := hok.date.d1; have q4 := hok.date.dn; have q5 := dim_ge (dateC t).y (dateC t).m; have q4b : (dateC t).d ≤ 31 := by omega
  have q6 := hok.h0; have q7 := hok.h1; have q8 := hok.mi0; have q9 := hok.mi1; have q10 := hok.s0; have q11 := hok.s1
  have HD := Lib.hid (rdate_any t ht (by omega) w)
  have HP := Lib.hid hP
  have htx : textD 77 t = padC 2 (Lib.itoa ((dateC t).mi)) := rfl
  rw [htx]
  clear htx hok q4 hP ht ht2
  generalize dateC t = DD at *
  obtain ⟨y, m, d, h, mi, s⟩ := DD
  simp only [DT.v] at *
  have HG := Lib.hid (fun W (hp : PowIs W) => rdigits_any (mi) 2 (by omega) (by omega) (by omega) (by omega) W hp)
  go_enter Tryd.func46, Tryd.ntmps46
  go_wp2_with (first | (go_at_call 54; refine HD.out.mono ?_; rintro e w1 ⟨rfl, hb1⟩; obtain ⟨c0, c1, c2, c3, c4, c5⟩ := cells6_new w1 (.int .i64 y) (.int .i64 m) (.int .i64 d) (.int .i64 h) (.int .i64 mi) (.int .i64 s) 30; have HB := Lib.hid (hb1.alloc hb1.size (.cells #[.int .i64 y, .int .i64 m, .int .i64 d, .int .i64 h, .int .i64 mi, .int .i64 s] 30))) | (go_at_call 90; refine (HG.out _ (HP.out.below HB.out)).mono ?_; rintro e w2 ⟨rfl, hb2⟩))
  go_ret2
  exact ⟨rfl, HB.out.trans (hb2.mono HB.out.size)⟩

set_option maxRecDepth 100000 in
set_option maxHeartbeats 1600000 in
theorem rl_83 (t : Int) (ht : -62135596800 ≤ t) (ht2 : t ≤ 253402300799) (w : World) (hP : PowIs w) :
    Calls Tryd.prog 46 #[.int .i64 t, .int .u8 83] w fun e w' => e = .returned (.tuple #[.string ⟨(textD 83 t).toArray⟩, .bool true]) ∧ Below w.heap.size w w' := by
  have hok := (dateC_ok ht).1
  have hyy := year_100000 ht (by omega)
  have q1 := hok.date.m1; have q2 := hok.date.m12; have q3 := hok.date.d1; have q4 := hok.date.dn; have q5 := dim_ge (dateC t).y (dateC t).m; have q4b : (dateC t).d ≤ 31 := by omega
  have q6 := hok.h0; have q7 := hok.h1; have q8 := hok.mi0; have q9 := hok.mi1; have q10 := hok.s0; have q11 := hok.s1
  have HD := Lib.hid (rdate_any t ht (by omega) w)
  have HP := Lib.hid hP
  have htx : textD 83 t = padC 2 (Lib.itoa ((dateC t).s)) := rfl
  rw [htx]
  clear htx hok q4 hP ht ht2
  generalize dateC t = DD at *
  obtain ⟨y, m, d, h, mi, s⟩ := DD
  simp only [DT.v] at *
  have HG := Lib.hid (fun W (hp : PowIs W) => rdigits_any (s) 2 (by omega) (by omega) (by omega) (by omega) W hp)
  go_enter Tryd.func46, Tryd.ntmps46
  go_wp2_with (first | (go_at_call 54; refine HD.out.mono ?_; rintro e w1 ⟨rfl, hb1⟩; obtain ⟨c0, c1, c2, c3, c4, c5⟩ := cells6_new w1 (.int .i64 y) (.int .i64 m) (.int .i64 d) (.int .i64 h) (.int .i64 mi) (.int .i64 s) 30; have HB := Lib.hid (hb1.alloc hb1.size (.cells #[.int .i64 y, .int .i64 m, .int .i64 d, .int .i64 h, .int .i64 mi, .int .i64 s] 30))) | (go_at_call 90; refine (HG.out _ (HP.out.below HB.out)).mono ?_; rintro e w2 ⟨rfl, hb2⟩))
  go_ret2
  exact ⟨rfl, HB.out.trans (hb2.mono HB.out.size)⟩

set_option maxRecDepth 100000 in
set_option maxHeartbeats 1600000 in
theorem rl_101 (t : Int) (ht : -62135596800 ≤ t) (ht2 : t ≤ 253402300799) (w : World) (hP : PowIs w) :
    Calls Tryd.prog 46 #[.int .i64 t, .int .u8 101] w fun e w' => e = .returned (.tuple #[.string ⟨(textD 101 t).toArray⟩, .bool true]) ∧ Below w.heap.size w w' := by
  have hok := (dateC_ok ht).1
  have hyy := year_100000 ht (by omega)
  have q1 := hok.date.m1; have q2 := hok.date.m12; have q3 := hok.date.d1; have q4 := hok.date.dn; have q5 := dim_ge (dateC t).y (dateC t).m; have q4b : (dateC t).d ≤ 31 := by omega
  have q6 := hok.h0; have q7 := hok.h1; have q8 := hok.mi0; have q9 := hok.mi1; have q10 := hok.s0; have q11 := hok.s1
  have HD := Lib.hid (rdate_any t ht (by omega) w)
  have HP := Lib.hid hP
  have htx : textD 101 t = padC 1 (Lib.itoa ((dateC t).d)) := by
    show padC 0 (Lib.itoa ((dateC t).d)) = _
    have := itoa_pos ((dateC t).d)
    rw [padC_none (by omega), padC_none (by omega)]
  rw [htx]
  clear htx hok q4 hP ht ht2
  generalize dateC t = DD at *
  obtain ⟨y, m, d, h, mi, s⟩ := DD
  simp only [DT.v] at *
  have HG := Lib.hid (fun W (hp : PowIs W) => rdigits_any (d) 1 (by omega) (by omega) (by omega) (by omega) W hp)
  go_enter Tryd.func46, Tryd.ntmps46
  go_wp2_with (first | (go_at_call 54; refine HD.out.mono ?_; rintro e w1 ⟨rfl, hb1⟩; obtain ⟨c0, c1, c2, c3, c4, c5⟩ := cells6_new w1 (.int .i64 y) (.int .i64 m) (.int .i64 d) (.int .i64 h) (.int .i64 mi) (.int .i64 s) 30; have HB := Lib.hid (hb1.alloc hb1.size (.cells #[.int .i64 y, .int .i64 m, .int .i64 d, .int .i64 h, .int .i64 mi, .int .i64 s] 30))) | (go_at_call 90; refine (HG.out _ (HP.out.below HB.out)).mono ?_; rintro e w2 ⟨rfl, hb2⟩))
  go_ret2
  exact ⟨rfl, HB.out.trans (hb2.mono HB.out.size)⟩

set_option maxRecDepth 100000 in
set_option maxHeartbeats 1600000 in
theorem rl_73 (t : Int) (ht : -62135596800 ≤ t) (ht2 : t ≤ 253402300799) (w : World) (hP : PowIs w) :
    Calls Tryd.prog 46 #[.int .i64 t, .int .u8 73] w fun e w' => e = .returned (.tuple #[.string ⟨(textD 73 t).toArray⟩, .bool true]) ∧ Below w.heap.size w w' := by
  have hok := (dateC_ok ht).1
  have hyy := year_100000 ht (by omega)
  have q1 := hok.date.m1; have q2 := hok.date.m12; have q3 := hok.date.d1; have q4 := hok.date.dn; have q5 := dim_ge (dateC t).y (dateC t).m; have q4b : (dateC t).d ≤ 31 := by omega
  have q6 := hok.h0; have q7 := hok.h1; have q8 := hok.mi0; have q9 := hok.mi1; have q10 := hok.s0; have q11 := hok.s1
  have HD := Lib.hid (rdate_any t ht (by omega) w)
  have HP := Lib.hid hP
  have htx : textD 73 t = padC 2 (Lib.itoa (((dateC t).h + 11) % 12 + 1)) := rfl
  rw [htx]
  clear htx hok q4 hP ht ht2
  generalize dateC t = DD at *
  obtain ⟨y, m, d, h, mi, s⟩ := DD
  simp only [DT.v] at *
  have HG := Lib.hid (fun W (hp : PowIs W) => rdigits_any ((h + 11) % 12 + 1) 2 (by omega) (by omega) (by omega) (by omega) W hp)
  generalize hv : (h + 11) % 12 + 1 = v at *
  obtain ⟨u, hu⟩ : ∃ u, (h + 11) % 12 = u := ⟨_, rfl⟩
  have hv2 : (h + 11).tmod 12 = u := by rw [Int.tmod_eq_emod_of_nonneg (by omega)]; exact hu
  have hu2 : 0 ≤ u ∧ u < 12 := by omega
  rw [hu] at hv
  go_enter Tryd.func46, Tryd.ntmps46
  go_wp2_with (first | (go_at_call 54; refine HD.out.mono ?_; rintro e w1 ⟨rfl, hb1⟩; obtain ⟨c0, c1, c2, c3, c4, c5⟩ := cells6_new w1 (.int .i64 y) (.int .i64 m) (.int .i64 d) (.int .i64 h) (.int .i64 mi) (.int .i64 s) 30; have HB := Lib.hid (hb1.alloc hb1.size (.cells #[.int .i64 y, .int .i64 m, .int .i64 d, .int .i64 h, .int .i64 mi, .int .i64 s] 30))) | (go_at_call 90; refine (HG.out _ (HP.out.below HB.out)).mono ?_; rintro e w2 ⟨rfl, hb2⟩))
  go_ret2
  exact ⟨rfl, HB.out.trans (hb2.mono HB.out.size)⟩

set_option maxRecDepth 100000 in
set_option maxHeartbeats 1600000 in
theorem rl_112 (t : Int) (ht : -62135596800 ≤ t) (ht2 : t ≤ 253402300799) (w : World) (hP : PowIs w) :
    Calls Tryd.prog 46 #[.int .i64 t, .int .u8 112] w fun e w' => e = .returned (.tuple #[.string ⟨(textD 112 t).toArray⟩, .bool true]) ∧ Below w.heap.size w w' := by
  have hok := (dateC_ok ht).1
  have hyy := year_100000 ht (by omega)
  have q1 := hok.date.m1; have q2 := hok.date.m12; have q3 := hok.date.d1; have q4 := hok.date.dn; have q5 := dim_ge (dateC t).y (dateC t).m; have q4b : (dateC t).d ≤ 31 := by omega
  have q6 := hok.h0; have q7 := hok.h1; have q8 := hok.mi0; have q9 := hok.mi1; have q10 := hok.s0; have q11 := hok.s1
  have HD := Lib.hid (rdate_any t ht (by omega) w)
  have HP := Lib.hid hP
  have htx : textD 112 t = if (dateC t).h < 12 then [65, 77] else [80, 77] := by
    show ([[65, 77], [80, 77]] : List Bs).getD ((dateC t).h / 12 + 1 - 1).toNat [] = _
    by_cases hh : (dateC t).h < 12
    · rw [if_pos hh, show ((dateC t).h / 12 + 1 - 1).toNat = 0 by omega]; rfl
    · rw [if_neg hh, show ((dateC t).h / 12 + 1 - 1).toNat = 1 by omega]; rfl
  rw [htx]
  clear htx
  clear hok q4 hP
  generalize hDD : dateC t = DD at *
  obtain ⟨y, m, d, h, mi, s⟩ := DD
  simp only [DT.v] at *
  by_cases hh : h < 12
  · rw [if_pos hh]
    go_enter Tryd.func46, Tryd.ntmps46
    go_wp2_with (go_at_call 54; refine HD.out.mono ?_; rintro e w1 ⟨rfl, hb1⟩; obtain ⟨c0, c1, c2, c3, c4, c5⟩ := cells6_new w1 (.int .i64 y) (.int .i64 m) (.int .i64 d) (.int .i64 h) (.int .i64 mi) (.int .i64 s) 30; have HB := Lib.hid (hb1.alloc hb1.size (.cells #[.int .i64 y, .int .i64 m, .int .i64 d, .int .i64 h, .int .i64 mi, .int .i64 s] 30)))
    go_ret2
    exact ⟨rfl, HB.out⟩
  · rw [if_neg hh]
    go_enter Tryd.func46, Tryd.ntmps46
    go_wp2_with (go_at_call 54; refine HD.out.mono ?_; rintro e w1 ⟨rfl, hb1⟩; obtain ⟨c0, c1, c2, c3, c4, c5⟩ := cells6_new w1 (.int .i64 y) (.int .i64 m) (.int .i64 d) (.int .i64 h) (.int .i64 mi) (.int .i64 s) 30; have HB := Lib.hid (hb1.alloc hb1.size (.cells #[.int .i64 y, .int .i64 m, .int .i64 d, .int .i64 h, .int .i64 mi, .int .i64 s] 30)))
    go_ret2
    exact ⟨rfl, HB.out⟩

set_option maxRecDepth 100000 in
set_option maxHeartbeats 1600000 in
theorem rl_106 (t : Int) (ht : -62135596800 ≤ t) (ht2 : t ≤ 253402300799) (w : World) (hP : PowIs w) :
    Calls Tryd.prog 46 #[.int .i64 t, .int .u8 106] w fun e w' => e = .returned (.tuple #[.string ⟨(textD 106 t).toArray⟩, .bool true]) ∧ Below w.heap.size w w' := by
  have hok := (dateC_ok ht).1
  have hyy := year_100000 ht (by omega)
  have q1 := hok.date.m1; have q2 := hok.date.m12; have q3 := hok.date.d1; have q4 := hok.date.dn; have q5 := dim_ge (dateC t).y (dateC t).m; have q4b : (dateC t).d ≤ 31 := by omega
  have q6 := hok.h0; have q7 := hok.h1; have q8 := hok.mi0; have q9 := hok.mi1; have q10 := hok.s0; have q11 := hok.s1
  have HD := Lib.hid (rdate_any t ht (by omega) w)
  have HP := Lib.hid hP
  have htx : textD 106 t = padC 3 (Lib.itoa (ydC t)) := rfl
  rw [htx]
  clear htx
  have hsm := seven_small ht ht2 (60)
  have HG := Lib.hid (fun W (hp : PowIs W) => rdigits_any (ydC t) 3 hsm.1 hsm.2 (by omega) (by omega) W hp)
  have HC := Lib.hid (fun W => ryearday_any t ht (by omega) W)
  clear hok q4 hP
  generalize hDD : dateC t = DD at *
  obtain ⟨y, m, d, h, mi, s⟩ := DD
  simp only [DT.v] at *
  go_enter Tryd.func46, Tryd.ntmps46
  go_wp2_with (first | (go_at_call 54; refine HD.out.mono ?_; rintro e w1 ⟨rfl, hb1⟩; obtain ⟨c0, c1, c2, c3, c4, c5⟩ := cells6_new w1 (.int .i64 y) (.int .i64 m) (.int .i64 d) (.int .i64 h) (.int .i64 mi) (.int .i64 s) 30; have HB := Lib.hid (hb1.alloc hb1.size (.cells #[.int .i64 y, .int .i64 m, .int .i64 d, .int .i64 h, .int .i64 mi, .int .i64 s] 30))) | (go_at_call 61; refine (HC.out _).mono ?_; rintro e w2 ⟨rfl, hb2⟩; replace HB := Lib.hid (HB.out.trans (hb2.mono HB.out.size)); clear hb2) | (go_at_call 90; refine (HG.out _ (HP.out.below HB.out)).mono ?_; rintro e w3 ⟨rfl, hb3⟩))
  go_ret2
  exact ⟨rfl, HB.out.trans (hb3.mono HB.out.size)⟩

set_option maxRecDepth 100000 in
set_option maxHeartbeats 1600000 in
theorem rl_117 (t : Int) (ht : -62135596800 ≤ t) (ht2 : t ≤ 253402300799) (w : World) (hP : PowIs w) :
    Calls Tryd.prog 46 #[.int .i64 t, .int .u8 117] w fun e w' => e = .returned (.tuple #[.string ⟨(textD 117 t).toArray⟩, .bool true]) ∧ Below w.heap.size w w' := by
  have hok := (dateC_ok ht).1
  have hyy := year_100000 ht (by omega)
  have q1 := hok.date.m1; have q2 := hok.date.m12; have q3 := hok.date.d1; have q4 := hok.date.dn; have q5 := dim_ge (dateC t).y (dateC t).m; have q4b : (dateC t).d ≤ 31 := by omega
  have q6 := hok.h0; have q7 := hok.h1; have q8 := hok.mi0; have q9 := hok.mi1; have q10 := hok.s0; have q11 := hok.s1
  have HD := Lib.hid (rdate_any t ht (by omega) w)
  have HP := Lib.hid hP
  have htx : textD 117 t = padC 1 (Lib.itoa (wdC t)) := rfl
  rw [htx]
  clear htx
  have hsm := seven_small ht ht2 (52)
  have HG := Lib.hid (fun W (hp : PowIs W) => rdigits_any (wdC t) 1 hsm.1 hsm.2 (by omega) (by omega) W hp)
  have HC := Lib.hid (fun W => rweekday_any t ht (by omega) W)
  clear hok q4 hP
  generalize hDD : dateC t = DD at *
  obtain ⟨y, m, d, h, mi, s⟩ := DD
  simp only [DT.v] at *
  go_enter Tryd.func46, Tryd.ntmps46
  go_wp2_with (first | (go_at_call 54; refine HD.out.mono ?_; rintro e w1 ⟨rfl, hb1⟩; obtain ⟨c0, c1, c2, c3, c4, c5⟩ := cells6_new w1 (.int .i64 y) (.int .i64 m) (.int .i64 d) (.int .i64 h) (.int .i64 mi) (.int .i64 s) 30; have HB := Lib.hid (hb1.alloc hb1.size (.cells #[.int .i64 y, .int .i64 m, .int .i64 d, .int .i64 h, .int .i64 mi, .int .i64 s] 30))) | (go_at_call 51; refine (HC.out _).mono ?_; rintro e w2 ⟨rfl, rfl⟩) | (go_at_call 90; refine (HG.out _ (HP.out.below HB.out)).mono ?_; rintro e w3 ⟨rfl, hb3⟩))
  go_ret2
  exact ⟨rfl, HB.out.trans (hb3.mono HB.out.size)⟩

set_option maxRecDepth 100000 in
set_option maxHeartbeats 1600000 in
theorem rl_71 (t : Int) (ht : -62135596800 ≤ t) (ht2 : t ≤ 253402300799) (w : World) (hP : PowIs w) :
    Calls Tryd.prog 46 #[.int .i64 t, .int .u8 71] w fun e w' => e = .returned (.tuple #[.string ⟨(textD 71 t).toArray⟩, .bool true]) ∧ Below w.heap.size w w' := by
  have hok := (dateC_ok ht).1
  have hyy := year_100000 ht (by omega)
  have q1 := hok.date.m1; have q2 := hok.date.m12; have q3 := hok.date.d1; have q4 := hok.date.dn; have q5 := dim_ge (dateC t).y (dateC t).m; have q4b : (dateC t).d ≤ 31 := by omega
  have q6 := hok.h0; have q7 := hok.h1; have q8 := hok.mi0; have q9 := hok.mi1; have q10 := hok.s0; have q11 := hok.s1
  have HD := Lib.hid (rdate_any t ht (by omega) w)
  have HP := Lib.hid hP
  have htx : textD 71 t = padC 4 (Lib.itoa (yearOf (thC t))) := rfl
  rw [htx]
  clear htx
  have hsm := seven_small ht ht2 (81)
  have HG := Lib.hid (fun W (hp : PowIs W) => rdigits_any (yearOf (thC t)) 4 hsm.1 hsm.2 (by omega) (by omega) W hp)
  have HC := Lib.hid (fun W => rweek_any t ht (by omega) W)
  clear hok q4 hP
  generalize hDD : dateC t = DD at *
  obtain ⟨y, m, d, h, mi, s⟩ := DD
  simp only [DT.v] at *
  go_enter Tryd.func46, Tryd.ntmps46
  go_wp2_with (first | (go_at_call 54; refine HD.out.mono ?_; rintro e w1 ⟨rfl, hb1⟩; obtain ⟨c0, c1, c2, c3, c4, c5⟩ := cells6_new w1 (.int .i64 y) (.int .i64 m) (.int .i64 d) (.int .i64 h) (.int .i64 mi) (.int .i64 s) 30; have HB := Lib.hid (hb1.alloc hb1.size (.cells #[.int .i64 y, .int .i64 m, .int .i64 d, .int .i64 h, .int .i64 mi, .int .i64 s] 30))) | (go_at_call 63; refine (HC.out _).mono ?_; rintro e w2 ⟨rfl, hb2⟩; replace HB := Lib.hid (HB.out.trans (hb2.mono HB.out.size)); clear hb2) | (go_at_call 90; refine (HG.out _ (HP.out.below HB.out)).mono ?_; rintro e w3 ⟨rfl, hb3⟩))
  go_ret2
  exact ⟨rfl, HB.out.trans (hb3.mono HB.out.size)⟩

set_option maxRecDepth 100000 in
set_option maxHeartbeats 1600000 in
theorem rl_86 (t : Int) (ht : -62135596800 ≤ t) (ht2 : t ≤ 253402300799) (w : World) (hP : PowIs w) :
    Calls Tryd.prog 46 #[.int .i64 t, .int .u8 86] w fun e w' => e = .returned (.tuple #[.string ⟨(textD 86 t).toArray⟩, .bool true]) ∧ Below w.heap.size w w' := by
  have hok := (dateC_ok ht).1
  have hyy := year_100000 ht (by omega)
  have q1 := hok.date.m1; have q2 := hok.date.m12; have q3 := hok.date.d1; have q4 := hok.date.dn; have q5 := dim_ge (dateC t).y (dateC t).m; have q4b : (dateC t).d ≤ 31 := by omega
  have q6 := hok.h0; have q7 := hok.h1; have q8 := hok.mi0; have q9 := hok.mi1; have q10 := hok.s0; have q11 := hok.s1
  have HD := Lib.hid (rdate_any t ht (by omega) w)
  have HP := Lib.hid hP
  have htx : textD 86 t = padC 2 (Lib.itoa (weekN t)) := rfl
  rw [htx]
  clear htx
  have hsm := seven_small ht ht2 (82)
  have HG := Lib.hid (fun W (hp : PowIs W) => rdigits_any (weekN t) 2 hsm.1 hsm.2 (by omega) (by omega) W hp)
  have HC := Lib.hid (fun W => rweek_any t ht (by omega) W)
  clear hok q4 hP
  generalize hDD : dateC t = DD at *
  obtain ⟨y, m, d, h, mi, s⟩ := DD
  simp only [DT.v] at *
  go_enter Tryd.func46, Tryd.ntmps46
  go_wp2_with (first | (go_at_call 54; refine HD.out.mono ?_; rintro e w1 ⟨rfl, hb1⟩; obtain ⟨c0, c1, c2, c3, c4, c5⟩ := cells6_new w1 (.int .i64 y) (.int .i64 m) (.int .i64 d) (.int .i64 h) (.int .i64 mi) (.int .i64 s) 30; have HB := Lib.hid (hb1.alloc hb1.size (.cells #[.int .i64 y, .int .i64 m, .int .i64 d, .int .i64 h, .int .i64 mi, .int .i64 s] 30))) | (go_at_call 63; refine (HC.out _).mono ?_; rintro e w2 ⟨rfl, hb2⟩; replace HB := Lib.hid (HB.out.trans (hb2.mono HB.out.size)); clear hb2) | (go_at_call 90; refine (HG.out _ (HP.out.below HB.out)).mono ?_; rintro e w3 ⟨rfl, hb3⟩))
  go_ret2
  exact ⟨rfl, HB.out.trans (hb3.mono HB.out.size)⟩

set_option maxRecDepth 100000 in
set_option maxHeartbeats 1600000 in
theorem rl_115 (t : Int) (ht : -62135596800 ≤ t) (ht2 : t ≤ 253402300799) (w : World) (hP : PowIs w) :
    Calls Tryd.prog 46 #[.int .i64 t, .int .u8 115] w fun e w' => e = .returned (.tuple #[.string ⟨(textD 115 t).toArray⟩, .bool true]) ∧ Below w.heap.size w w' := by
  have hok := (dateC_ok ht).1
  have hyy := year_100000 ht (by omega)
  have q1 := hok.date.m1; have q2 := hok.date.m12; have q3 := hok.date.d1; have q4 := hok.date.dn; have q5 := dim_ge (dateC t).y (dateC t).m; have q4b : (dateC t).d ≤ 31 := by omega
  have q6 := hok.h0; have q7 := hok.h1; have q8 := hok.mi0; have q9 := hok.mi1; have q10 := hok.s0; have q11 := hok.s1
  have HD := Lib.hid (rdate_any t ht (by omega) w)
  have HP := Lib.hid hP
  have htx : textD 115 t = Lib.itoa t := by
    show padC 0 (Lib.itoa t) = _
    exact padC_none (by omega)
  rw [htx]
  clear htx
  have HI := Lib.hid (fun W (hp : PowIs W) => itoa_any t (by omega) (by omega) W hp)
  clear hok q4 hP
  generalize hDD : dateC t = DD at *
  obtain ⟨y, m, d, h, mi, s⟩ := DD
  simp only [DT.v] at *
  go_enter Tryd.func46, Tryd.ntmps46
  go_wp2_with (first | (go_at_call 54; refine HD.out.mono ?_; rintro e w1 ⟨rfl, hb1⟩; obtain ⟨c0, c1, c2, c3, c4, c5⟩ := cells6_new w1 (.int .i64 y) (.int .i64 m) (.int .i64 d) (.int .i64 h) (.int .i64 mi) (.int .i64 s) 30; have HB := Lib.hid (hb1.alloc hb1.size (.cells #[.int .i64 y, .int .i64 m, .int .i64 d, .int .i64 h, .int .i64 mi, .int .i64 s] 30))) | (go_at_call 88; refine (HI.out _ (HP.out.below HB.out)).mono ?_; rintro e w2 ⟨rfl, hb2⟩))
  go_ret2
  exact ⟨rfl, HB.out.trans (hb2.mono HB.out.size)⟩

set_option maxRecDepth 100000 in
set_option maxHeartbeats 1600000 in
theorem rl_37 (t : Int) (ht : -62135596800 ≤ t) (ht2 : t ≤ 253402300799) (w : World) (hP : PowIs w) :
    Calls Tryd.prog 46 #[.int .i64 t, .int .u8 37] w fun e w' => e = .returned (.tuple #[.string ⟨(([37] : Bs)).toArray⟩, .bool true]) ∧ Below w.heap.size w w' := by
  have hok := (dateC_ok ht).1
  have hyy := year_100000 ht (by omega)
  have q1 := hok.date.m1; have q2 := hok.date.m12; have q3 := hok.date.d1; have q4 := hok.date.dn; have q5 := dim_ge (dateC t).y (dateC t).m; have q4b : (dateC t).d ≤ 31 := by omega
  have q6 := hok.h0; have q7 := hok.h1; have q8 := hok.mi0; have q9 := hok.mi1; have q10 := hok.s0; have q11 := hok.s1
  have HD := Lib.hid (rdate_any t ht (by omega) w)
  have HP := Lib.hid hP
  clear hok q4 hP
  generalize hDD : dateC t = DD at *
  obtain ⟨y, m, d, h, mi, s⟩ := DD
  simp only [DT.v] at *
  go_enter Tryd.func46, Tryd.ntmps46
  go_wp2_with (go_at_call 54; refine HD.out.mono ?_; rintro e w1 ⟨rfl, hb1⟩; obtain ⟨c0, c1, c2, c3, c4, c5⟩ := cells6_new w1 (.int .i64 y) (.int .i64 m) (.int .i64 d) (.int .i64 h) (.int .i64 mi) (.int .i64 s) 30; have HB := Lib.hid (hb1.alloc hb1.size (.cells #[.int .i64 y, .int .i64 m, .int .i64 d, .int .i64 h, .int .i64 mi, .int .i64 s] 30)))
  go_ret2
  exact ⟨rfl, HB.out⟩
end Go.Proofs.YtmidphmniikdpaaDoor
