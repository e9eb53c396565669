/- Contracts of what the letters of a form stand for: the closures over a date's parts. -/
import Derived.Test.YtkahakhhdiffcaaGreatDoorCWeek
import Derived.Deep.RegionWith
import Derived.ProofKit
namespace Go.Proofs.YtkahakhhdiffcaaGreatDoor
set_option linter.unusedVariables false
set_option linter.unusedSimpArgs false
open Go.RowKit
theorem cell_lt {w : World} {a : Addr} {v : Value} (h : w.cell? a = some v) : a.block < w.heap.size := by
  rcases Nat.lt_or_ge a.block w.heap.size with h' | h'
  · exact h'
  · simp [World.cell?, Array.getElem?_eq_none h'] at h

set_option maxRecDepth 100000 in
theorem get_2 (y m d h mi s : Int) (hy : 0 ≤ y) (hh : 0 ≤ h) (hh2 : h ≤ 23) (w : World) :
    Calls Tryz.prog 63 #[.agg #[.int .i64 y, .int .i64 m, .int .i64 d, .int .i64 h, .int .i64 mi, .int .i64 s]] w fun e w' => e = .returned (.int .i64 (m)) ∧ Below w.heap.size w w' := by
  obtain ⟨c0, c1, c2, c3, c4, c5⟩ := cells6_new w (.int .i64 y) (.int .i64 m) (.int .i64 d) (.int .i64 h) (.int .i64 mi) (.int .i64 s) 39
  have HB := Lib.hid (below_alloc1 w (.cells #[.int .i64 y, .int .i64 m, .int .i64 d, .int .i64 h, .int .i64 mi, .int .i64 s] 39))
  go_enter Tryz.func63, Tryz.ntmps63
  go_wp2_with fail
  go_ret
  exact ⟨ret_int (by first | rfl | omega), HB.out⟩
set_option maxRecDepth 100000 in
set_option maxHeartbeats 1600000 in
theorem of_2 (t : Int) (ht : -62135596800 ≤ t) (ht2 : t ≤ 300000000000) (a : Nat) (W : World) (hc : W.cell? ⟨a, 0, none⟩ = some (.func (.func 63) #[] #[])) :
    Calls Tryz.prog 62 #[.int .i64 t, .pointer (some ⟨a, 0, none⟩)] W fun e w' => e = .returned (.int .i64 ((dateC t).m)) ∧ Below W.heap.size W w' := by
  have HD := Lib.hid (fun W => date_any t ht ht2 W)
  have hok := (dateC_ok ht).1
  have hlt : a < W.heap.size := cell_lt hc
  have h1 := hok.date.y1; have h2 := hok.h0; have h3 := hok.h1
  generalize dateC t = D at *
  obtain ⟨y, m, d, h, mi, s⟩ := D
  simp only [DT.v] at *
  have HG := Lib.hid (fun W => get_2 y m d h mi s (by omega) h2 h3 W)
  clear hok h1 h2 h3 ht ht2
  go_enter Tryz.func62, Tryz.ntmps62
  go_wp2_with fail
  go_region_with (first | (go_at_call 44; refine (HD.out _).mono ?_; rintro e w1 ⟨rfl, hb1⟩; have hc1 := (hb1.cell (p := ⟨a, 0, none⟩) (by simpa using hlt)).trans (by simpa using hc)) | (go_at_call 63; refine (HG.out _).mono ?_; rintro e w2 ⟨rfl, hb2⟩))
  all_goals (go_wp2_with fail; go_ret; exact ⟨rfl, by exact ((Below.refl W.heap.size W).drew).trans (hb1.trans (hb2.mono hb1.size))⟩)

set_option maxRecDepth 100000 in
theorem get_3 (y m d h mi s : Int) (hy : 0 ≤ y) (hh : 0 ≤ h) (hh2 : h ≤ 23) (w : World) :
    Calls Tryz.prog 64 #[.agg #[.int .i64 y, .int .i64 m, .int .i64 d, .int .i64 h, .int .i64 mi, .int .i64 s]] w fun e w' => e = .returned (.int .i64 (d)) ∧ Below w.heap.size w w' := by
  obtain ⟨c0, c1, c2, c3, c4, c5⟩ := cells6_new w (.int .i64 y) (.int .i64 m) (.int .i64 d) (.int .i64 h) (.int .i64 mi) (.int .i64 s) 39
  have HB := Lib.hid (below_alloc1 w (.cells #[.int .i64 y, .int .i64 m, .int .i64 d, .int .i64 h, .int .i64 mi, .int .i64 s] 39))
  go_enter Tryz.func64, Tryz.ntmps64
  go_wp2_with fail
  go_ret
  exact ⟨ret_int (by first | rfl | omega), HB.out⟩
set_option maxRecDepth 100000 in
set_option maxHeartbeats 1600000 in
theorem of_3 (t : Int) (ht : -62135596800 ≤ t) (ht2 : t ≤ 300000000000) (a : Nat) (W : World) (hc : W.cell? ⟨a, 0, none⟩ = some (.func (.func 64) #[] #[])) :
    Calls Tryz.prog 62 #[.int .i64 t, .pointer (some ⟨a, 0, none⟩)] W fun e w' => e = .returned (.int .i64 ((dateC t).d)) ∧ Below W.heap.size W w' := by
  have HD := Lib.hid (fun W => date_any t ht ht2 W)
  have hok := (dateC_ok ht).1
  have hlt : a < W.heap.size := cell_lt hc
  have h1 := hok.date.y1; have h2 := hok.h0; have h3 := hok.h1
  generalize dateC t = D at *
  obtain ⟨y, m, d, h, mi, s⟩ := D
  simp only [DT.v] at *
  have HG := Lib.hid (fun W => get_3 y m d h mi s (by omega) h2 h3 W)
  clear hok h1 h2 h3 ht ht2
  go_enter Tryz.func62, Tryz.ntmps62
  go_wp2_with fail
  go_region_with (first | (go_at_call 44; refine (HD.out _).mono ?_; rintro e w1 ⟨rfl, hb1⟩; have hc1 := (hb1.cell (p := ⟨a, 0, none⟩) (by simpa using hlt)).trans (by simpa using hc)) | (go_at_call 64; refine (HG.out _).mono ?_; rintro e w2 ⟨rfl, hb2⟩))
  all_goals (go_wp2_with fail; go_ret; exact ⟨rfl, by exact ((Below.refl W.heap.size W).drew).trans (hb1.trans (hb2.mono hb1.size))⟩)

set_option maxRecDepth 100000 in
theorem get_4 (y m d h mi s : Int) (hy : 0 ≤ y) (hh : 0 ≤ h) (hh2 : h ≤ 23) (w : World) :
    Calls Tryz.prog 65 #[.agg #[.int .i64 y, .int .i64 m, .int .i64 d, .int .i64 h, .int .i64 mi, .int .i64 s]] w fun e w' => e = .returned (.int .i64 (y)) ∧ Below w.heap.size w w' := by
  obtain ⟨c0, c1, c2, c3, c4, c5⟩ := cells6_new w (.int .i64 y) (.int .i64 m) (.int .i64 d) (.int .i64 h) (.int .i64 mi) (.int .i64 s) 39
  have HB := Lib.hid (below_alloc1 w (.cells #[.int .i64 y, .int .i64 m, .int .i64 d, .int .i64 h, .int .i64 mi, .int .i64 s] 39))
  go_enter Tryz.func65, Tryz.ntmps65
  go_wp2_with fail
  go_ret
  exact ⟨ret_int (by first | rfl | omega), HB.out⟩
set_option maxRecDepth 100000 in
set_option maxHeartbeats 1600000 in
theorem of_4 (t : Int) (ht : -62135596800 ≤ t) (ht2 : t ≤ 300000000000) (a : Nat) (W : World) (hc : W.cell? ⟨a, 0, none⟩ = some (.func (.func 65) #[] #[])) :
    Calls Tryz.prog 62 #[.int .i64 t, .pointer (some ⟨a, 0, none⟩)] W fun e w' => e = .returned (.int .i64 ((dateC t).y)) ∧ Below W.heap.size W w' := by
  have HD := Lib.hid (fun W => date_any t ht ht2 W)
  have hok := (dateC_ok ht).1
  have hlt : a < W.heap.size := cell_lt hc
  have h1 := hok.date.y1; have h2 := hok.h0; have h3 := hok.h1
  generalize dateC t = D at *
  obtain ⟨y, m, d, h, mi, s⟩ := D
  simp only [DT.v] at *
  have HG := Lib.hid (fun W => get_4 y m d h mi s (by omega) h2 h3 W)
  clear hok h1 h2 h3 ht ht2
  go_enter Tryz.func62, Tryz.ntmps62
  go_wp2_with fail
  go_region_with (first | (go_at_call 44; refine (HD.out _).mono ?_; rintro e w1 ⟨rfl, hb1⟩; have hc1 := (hb1.cell (p := ⟨a, 0, none⟩) (by simpa using hlt)).trans (by simpa using hc)) | (go_at_call 65; refine (HG.out _).mono ?_; rintro e w2 ⟨rfl, hb2⟩))
  all_goals (go_wp2_with fail; go_ret; exact ⟨rfl, by exact ((Below.refl W.heap.size W).drew).trans (hb1.trans (hb2.mono hb1.size))⟩)

set_option maxRecDepth 100000 in
theorem get_5 (y m d h mi s : Int) (hy : 0 ≤ y) (hh : 0 ≤ h) (hh2 : h ≤ 23) (w : World) :
    Calls Tryz.prog 66 #[.agg #[.int .i64 y, .int .i64 m, .int .i64 d, .int .i64 h, .int .i64 mi, .int .i64 s]] w fun e w' => e = .returned (.int .i64 (y % 100)) ∧ Below w.heap.size w w' := by
  obtain ⟨c0, c1, c2, c3, c4, c5⟩ := cells6_new w (.int .i64 y) (.int .i64 m) (.int .i64 d) (.int .i64 h) (.int .i64 mi) (.int .i64 s) 39
  have HB := Lib.hid (below_alloc1 w (.cells #[.int .i64 y, .int .i64 m, .int .i64 d, .int .i64 h, .int .i64 mi, .int .i64 s] 39))
  go_enter Tryz.func66, Tryz.ntmps66
  go_wp2_with fail
  go_ret
  exact ⟨ret_int (by first | rfl | omega), HB.out⟩
set_option maxRecDepth 100000 in
set_option maxHeartbeats 1600000 in
theorem of_5 (t : Int) (ht : -62135596800 ≤ t) (ht2 : t ≤ 300000000000) (a : Nat) (W : World) (hc : W.cell? ⟨a, 0, none⟩ = some (.func (.func 66) #[] #[])) :
    Calls Tryz.prog 62 #[.int .i64 t, .pointer (some ⟨a, 0, none⟩)] W fun e w' => e = .returned (.int .i64 ((dateC t).y % 100)) ∧ Below W.heap.size W w' := by
  have HD := Lib.hid (fun W => date_any t ht ht2 W)
  have hok := (dateC_ok ht).1
  have hlt : a < W.heap.size := cell_lt hc
  have h1 := hok.date.y1; have h2 := hok.h0; have h3 := hok.h1
  generalize dateC t = D at *
  obtain ⟨y, m, d, h, mi, s⟩ := D
  simp only [DT.v] at *
  have HG := Lib.hid (fun W => get_5 y m d h mi s (by omega) h2 h3 W)
  clear hok h1 h2 h3 ht ht2
  go_enter Tryz.func62, Tryz.ntmps62
  go_wp2_with fail
  go_region_with (first | (go_at_call 44; refine (HD.out _).mono ?_; rintro e w1 ⟨rfl, hb1⟩; have hc1 := (hb1.cell (p := ⟨a, 0, none⟩) (by simpa using hlt)).trans (by simpa using hc)) | (go_at_call 66; refine (HG.out _).mono ?_; rintro e w2 ⟨rfl, hb2⟩))
  all_goals (go_wp2_with fail; go_ret; exact ⟨rfl, by exact ((Below.refl W.heap.size W).drew).trans (hb1.trans (hb2.mono hb1.size))⟩)

set_option maxRecDepth 100000 in
theorem get_6 (y m d h mi s : Int) (hy : 0 ≤ y) (hh : 0 ≤ h) (hh2 : h ≤ 23) (w : World) :
    Calls Tryz.prog 67 #[.agg #[.int .i64 y, .int .i64 m, .int .i64 d, .int .i64 h, .int .i64 mi, .int .i64 s]] w fun e w' => e = .returned (.int .i64 (h)) ∧ Below w.heap.size w w' := by
  obtain ⟨c0, c1, c2, c3, c4, c5⟩ := cells6_new w (.int .i64 y) (.int .i64 m) (.int .i64 d) (.int .i64 h) (.int .i64 mi) (.int .i64 s) 39
  have HB := Lib.hid (below_alloc1 w (.cells #[.int .i64 y, .int .i64 m, .int .i64 d, .int .i64 h, .int .i64 mi, .int .i64 s] 39))
  go_enter Tryz.func67, Tryz.ntmps67
  go_wp2_with fail
  go_ret
  exact ⟨ret_int (by first | rfl | omega), HB.out⟩
set_option maxRecDepth 100000 in
set_option maxHeartbeats 1600000 in
theorem of_6 (t : Int) (ht : -62135596800 ≤ t) (ht2 : t ≤ 300000000000) (a : Nat) (W : World) (hc : W.cell? ⟨a, 0, none⟩ = some (.func (.func 67) #[] #[])) :
    Calls Tryz.prog 62 #[.int .i64 t, .pointer (some ⟨a, 0, none⟩)] W fun e w' => e = .returned (.int .i64 ((dateC t).h)) ∧ Below W.heap.size W w' := by
  have HD := Lib.hid (fun W => date_any t ht ht2 W)
  have hok := (dateC_ok ht).1
  have hlt : a < W.heap.size := cell_lt hc
  have h1 := hok.date.y1; have h2 := hok.h0; have h3 := hok.h1
  generalize dateC t = D at *
  obtain ⟨y, m, d, h, mi, s⟩ := D
  simp only [DT.v] at *
  have HG := Lib.hid (fun W => get_6 y m d h mi s (by omega) h2 h3 W)
  clear hok h1 h2 h3 ht ht2
  go_enter Tryz.func62, Tryz.ntmps62
  go_wp2_with fail
  go_region_with (first | (go_at_call 44; refine (HD.out _).mono ?_; rintro e w1 ⟨rfl, hb1⟩; have hc1 := (hb1.cell (p := ⟨a, 0, none⟩) (by simpa using hlt)).trans (by simpa using hc)) | (go_at_call 67; refine (HG.out _).mono ?_; rintro e w2 ⟨rfl, hb2⟩))
  all_goals (go_wp2_with fail; go_ret; exact ⟨rfl, by exact ((Below.refl W.heap.size W).drew).trans (hb1.trans (hb2.mono hb1.size))⟩)

set_option maxRecDepth 100000 in
theorem get_7 (y m d h mi s : Int) (hy : 0 ≤ y) (hh : 0 ≤ h) (hh2 : h ≤ 23) (w : World) :
    Calls Tryz.prog 68 #[.agg #[.int .i64 y, .int .i64 m, .int .i64 d, .int .i64 h, .int .i64 mi, .int .i64 s]] w fun e w' => e = .returned (.int .i64 (mi)) ∧ Below w.heap.size w w' := by
  obtain ⟨c0, c1, c2, c3, c4, c5⟩ := cells6_new w (.int .i64 y) (.int .i64 m) (.int .i64 d) (.int .i64 h) (.int .i64 mi) (.int .i64 s) 39
  have HB := Lib.hid (below_alloc1 w (.cells #[.int .i64 y, .int .i64 m, .int .i64 d, .int .i64 h, .int .i64 mi, .int .i64 s] 39))
  go_enter Tryz.func68, Tryz.ntmps68
  go_wp2_with fail
  go_ret
  exact ⟨ret_int (by first | rfl | omega), HB.out⟩
set_option maxRecDepth 100000 in
set_option maxHeartbeats 1600000 in
theorem of_7 (t : Int) (ht : -62135596800 ≤ t) (ht2 : t ≤ 300000000000) (a : Nat) (W : World) (hc : W.cell? ⟨a, 0, none⟩ = some (.func (.func 68) #[] #[])) :
    Calls Tryz.prog 62 #[.int .i64 t, .pointer (some ⟨a, 0, none⟩)] W fun e w' => e = .returned (.int .i64 ((dateC t).mi)) ∧ Below W.heap.size W w' := by
  have HD := Lib.hid (fun W => date_any t ht ht2 W)
  have hok := (dateC_ok ht).1
  have hlt : a < W.heap.size := cell_lt hc
  have h1 := hok.date.y1; have h2 := hok.h0; have h3 := hok.h1
  generalize dateC t = D at *
  obtain ⟨y, m, d, h, mi, s⟩ := D
  simp only [DT.v] at *
  have HG := Lib.hid (fun W => get_7 y m d h mi s (by omega) h2 h3 W)
  clear hok h1 h2 h3 ht ht2
  go_enter Tryz.func62, Tryz.ntmps62
  go_wp2_with fail
  go_region_with (first | (go_at_call 44; refine (HD.out _).mono ?_; rintro e w1 ⟨rfl, hb1⟩; have hc1 := (hb1.cell (p := ⟨a, 0, none⟩) (by simpa using hlt)).trans (by simpa using hc)) | (go_at_call 68; refine (HG.out _).mono ?_; rintro e w2 ⟨rfl, hb2⟩))
  all_goals (go_wp2_with fail; go_ret; exact ⟨rfl, by exact ((Below.refl W.heap.size W).drew).trans (hb1.trans (hb2.mono hb1.size))⟩)

set_option maxRecDepth 100000 in
theorem get_8 (y m d h mi s : Int) (hy : 0 ≤ y) (hh : 0 ≤ h) (hh2 : h ≤ 23) (w : World) :
    Calls Tryz.prog 69 #[.agg #[.int .i64 y, .int .i64 m, .int .i64 d, .int .i64 h, .int .i64 mi, .int .i64 s]] w fun e w' => e = .returned (.int .i64 (s)) ∧ Below w.heap.size w w' := by
  obtain ⟨c0, c1, c2, c3, c4, c5⟩ := cells6_new w (.int .i64 y) (.int .i64 m) (.int .i64 d) (.int .i64 h) (.int .i64 mi) (.int .i64 s) 39
  have HB := Lib.hid (below_alloc1 w (.cells #[.int .i64 y, .int .i64 m, .int .i64 d, .int .i64 h, .int .i64 mi, .int .i64 s] 39))
  go_enter Tryz.func69, Tryz.ntmps69
  go_wp2_with fail
  go_ret
  exact ⟨ret_int (by first | rfl | omega), HB.out⟩
set_option maxRecDepth 100000 in
set_option maxHeartbeats 1600000 in
theorem of_8 (t : Int) (ht : -62135596800 ≤ t) (ht2 : t ≤ 300000000000) (a : Nat) (W : World) (hc : W.cell? ⟨a, 0, none⟩ = some (.func (.func 69) #[] #[])) :
    Calls Tryz.prog 62 #[.int .i64 t, .pointer (some ⟨a, 0, none⟩)] W fun e w' => e = .returned (.int .i64 ((dateC t).s)) ∧ Below W.heap.size W w' := by
  have HD := Lib.hid (fun W => date_any t ht ht2 W)
  have hok := (dateC_ok ht).1
  have hlt : a < W.heap.size := cell_lt hc
  have h1 := hok.date.y1; have h2 := hok.h0; have h3 := hok.h1
  generalize dateC t = D at *
  obtain ⟨y, m, d, h, mi, s⟩ := D
  simp only [DT.v] at *
  have HG := Lib.hid (fun W => get_8 y m d h mi s (by omega) h2 h3 W)
  clear hok h1 h2 h3 ht ht2
  go_enter Tryz.func62, Tryz.ntmps62
  go_wp2_with fail
  go_region_with (first | (go_at_call 44; refine (HD.out _).mono ?_; rintro e w1 ⟨rfl, hb1⟩; have hc1 := (hb1.cell (p := ⟨a, 0, none⟩) (by simpa using hlt)).trans (by simpa using hc)) | (go_at_call 69; refine (HG.out _).mono ?_; rintro e w2 ⟨rfl, hb2⟩))
  all_goals (go_wp2_with fail; go_ret; exact ⟨rfl, by exact ((Below.refl W.heap.size W).drew).trans (hb1.trans (hb2.mono hb1.size))⟩)

set_option maxRecDepth 100000 in
theorem get_9 (y m d h mi s : Int) (hy : 0 ≤ y) (hh : 0 ≤ h) (hh2 : h ≤ 23) (w : World) :
    Calls Tryz.prog 70 #[.agg #[.int .i64 y, .int .i64 m, .int .i64 d, .int .i64 h, .int .i64 mi, .int .i64 s]] w fun e w' => e = .returned (.int .i64 ((h + 11) % 12 + 1)) ∧ Below w.heap.size w w' := by
  obtain ⟨c0, c1, c2, c3, c4, c5⟩ := cells6_new w (.int .i64 y) (.int .i64 m) (.int .i64 d) (.int .i64 h) (.int .i64 mi) (.int .i64 s) 39
  have HB := Lib.hid (below_alloc1 w (.cells #[.int .i64 y, .int .i64 m, .int .i64 d, .int .i64 h, .int .i64 mi, .int .i64 s] 39))
  go_enter Tryz.func70, Tryz.ntmps70
  go_wp2_with fail
  go_ret
  exact ⟨ret_int (by first | rfl | omega), HB.out⟩
set_option maxRecDepth 100000 in
set_option maxHeartbeats 1600000 in
theorem of_9 (t : Int) (ht : -62135596800 ≤ t) (ht2 : t ≤ 300000000000) (a : Nat) (W : World) (hc : W.cell? ⟨a, 0, none⟩ = some (.func (.func 70) #[] #[])) :
    Calls Tryz.prog 62 #[.int .i64 t, .pointer (some ⟨a, 0, none⟩)] W fun e w' => e = .returned (.int .i64 (((dateC t).h + 11) % 12 + 1)) ∧ Below W.heap.size W w' := by
  have HD := Lib.hid (fun W => date_any t ht ht2 W)
  have hok := (dateC_ok ht).1
  have hlt : a < W.heap.size := cell_lt hc
  have h1 := hok.date.y1; have h2 := hok.h0; have h3 := hok.h1
  generalize dateC t = D at *
  obtain ⟨y, m, d, h, mi, s⟩ := D
  simp only [DT.v] at *
  have HG := Lib.hid (fun W => get_9 y m d h mi s (by omega) h2 h3 W)
  clear hok h1 h2 h3 ht ht2
  go_enter Tryz.func62, Tryz.ntmps62
  go_wp2_with fail
  go_region_with (first | (go_at_call 44; refine (HD.out _).mono ?_; rintro e w1 ⟨rfl, hb1⟩; have hc1 := (hb1.cell (p := ⟨a, 0, none⟩) (by simpa using hlt)).trans (by simpa using hc)) | (go_at_call 70; refine (HG.out _).mono ?_; rintro e w2 ⟨rfl, hb2⟩))
  all_goals (go_wp2_with fail; go_ret; exact ⟨rfl, by exact ((Below.refl W.heap.size W).drew).trans (hb1.trans (hb2.mono hb1.size))⟩)

set_option maxRecDepth 100000 in
theorem get_10 (y m d h mi s : Int) (hy : 0 ≤ y) (hh : 0 ≤ h) (hh2 : h ≤ 23) (w : World) :
    Calls Tryz.prog 71 #[.agg #[.int .i64 y, .int .i64 m, .int .i64 d, .int .i64 h, .int .i64 mi, .int .i64 s]] w fun e w' => e = .returned (.int .i64 (h / 12 + 1)) ∧ Below w.heap.size w w' := by
  obtain ⟨c0, c1, c2, c3, c4, c5⟩ := cells6_new w (.int .i64 y) (.int .i64 m) (.int .i64 d) (.int .i64 h) (.int .i64 mi) (.int .i64 s) 39
  have HB := Lib.hid (below_alloc1 w (.cells #[.int .i64 y, .int .i64 m, .int .i64 d, .int .i64 h, .int .i64 mi, .int .i64 s] 39))
  go_enter Tryz.func71, Tryz.ntmps71
  go_wp2_with fail
  go_ret
  exact ⟨ret_int (by first | rfl | omega), HB.out⟩
set_option maxRecDepth 100000 in
set_option maxHeartbeats 1600000 in
theorem of_10 (t : Int) (ht : -62135596800 ≤ t) (ht2 : t ≤ 300000000000) (a : Nat) (W : World) (hc : W.cell? ⟨a, 0, none⟩ = some (.func (.func 71) #[] #[])) :
    Calls Tryz.prog 62 #[.int .i64 t, .pointer (some ⟨a, 0, none⟩)] W fun e w' => e = .returned (.int .i64 ((dateC t).h / 12 + 1)) ∧ Below W.heap.size W w' := by
  have HD := Lib.hid (fun W => date_any t ht ht2 W)
  have hok := (dateC_ok ht).1
  have hlt : a < W.heap.size := cell_lt hc
  have h1 := hok.date.y1; have h2 := hok.h0; have h3 := hok.h1
  generalize dateC t = D at *
  obtain ⟨y, m, d, h, mi, s⟩ := D
  simp only [DT.v] at *
  have HG := Lib.hid (fun W => get_10 y m d h mi s (by omega) h2 h3 W)
  clear hok h1 h2 h3 ht ht2
  go_enter Tryz.func62, Tryz.ntmps62
  go_wp2_with fail
  go_region_with (first | (go_at_call 44; refine (HD.out _).mono ?_; rintro e w1 ⟨rfl, hb1⟩; have hc1 := (hb1.cell (p := ⟨a, 0, none⟩) (by simpa using hlt)).trans (by simpa using hc)) | (go_at_call 71; refine (HG.out _).mono ?_; rintro e w2 ⟨rfl, hb2⟩))
  all_goals (go_wp2_with fail; go_ret; exact ⟨rfl, by exact ((Below.refl W.heap.size W).drew).trans (hb1.trans (hb2.mono hb1.size))⟩)
end Go.Proofs.YtkahakhhdiffcaaGreatDoor
