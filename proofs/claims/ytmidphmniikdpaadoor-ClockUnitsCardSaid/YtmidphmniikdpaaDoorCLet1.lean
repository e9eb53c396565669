/- Contracts of what the letters of a form stand for: the closures over a date's parts. -/
import Derived.Test.YtmidphmniikdpaaDoorCWeek
import Derived.Deep.RegionWith
import Derived.ProofKit
namespace Go.Proofs.YtmidphmniikdpaaDoor
set_option linter.unusedVariables false
set_option linter.unusedSimpArgs false
open Go.RowKit
theorem cell_lt {w : World} {a : Addr} {v : Value} (h : w.cell? a = some v) : a.block < w.heap.size := by
  rcases Nat.lt_or_ge a.block w.heap.size with h' | h'
  · exact h'
  · simp [World.cell?, Array.getElem?_eq_none h'] at h

set_option maxRecDepth 100000 in
theorem get_2 (y m d h mi s : Int) (hy : 0 ≤ y) (hh : 0 ≤ h) (hh2 : h ≤ 23) (w : World) :
    Calls Tryd.prog 72 #[.agg #[.int .i64 y, .int .i64 m, .int .i64 d, .int .i64 h, .int .i64 mi, .int .i64 s]] w fun e w' => e = .returned (.int .i64 (m)) ∧ Below w.heap.size w w' := by
  obtain ⟨c0, c1, c2, c3, c4, c5⟩ := cells6_new w (.int .i64 y) (.int .i64 m) (.int .i64 d) (.int .i64 h) (.int .i64 mi) (.int .i64 s) 30
  have HB := Lib.hid (below_alloc1 w (.cells #[.int .i64 y, .int .i64 m, .int .i64 d, .int .i64 h, .int .i64 mi, .int .i64 s] 30))
  go_enter Tryd.func72, Tryd.ntmps72
  go_wp2_with fail
  go_ret
  exact ⟨ret_int (by first | rfl | omega), HB.out⟩
set_option maxRecDepth 100000 in
set_option maxHeartbeats 1600000 in
theorem of_2 (t : Int) (ht : -62135596800 ≤ t) (ht2 : t ≤ 300000000000) (a : Nat) (W : World) (hc : W.cell? ⟨a, 0, none⟩ = some (.func (.func 72) #[] #[])) :
    Calls Tryd.prog 71 #[.int .i64 t, .pointer (some ⟨a, 0, none⟩)] W fun e w' => e = .returned (.int .i64 ((dateC t).m)) ∧ Below W.heap.size W w' := by
  have HD := Lib.hid (fun W => date_any t ht ht2 W)
  have hok := (dateC_ok ht).1
  have hlt : a < W.heap.size := cell_lt hc
  have h1 := hok.date.y1; have h2 := hok.h0; have h3 := hok.h1
  generalize dateC t = D at *
  obtain ⟨y, m, d, h, mi, s⟩ := D
  simp only [DT.v] at *
  have HG := Lib.hid (fun W => get_2 y m d h mi s (by omega) h2 h3 W)
  clear hok h1 h2 h3 ht ht2
  go_enter Tryd.func71, Tryd.ntmps71
  go_wp2_with fail
  go_region_with (first | (go_at_call 53; refine (HD.out _).mono ?_; rintro e w1 ⟨rfl, hb1⟩; have hc1 := (hb1.cell (p := ⟨a, 0, none⟩) (by simpa using hlt)).trans (by simpa using hc)) | (go_at_call 72; refine (HG.out _).mono ?_; rintro e w2 ⟨rfl, hb2⟩))
  all_goals (go_wp2_with fail; go_ret; exact ⟨rfl, by exact ((Below.refl W.heap.size W).drew).trans (hb1.trans (hb2.mono hb1.size))⟩)

set_option maxRecDepth 100000 in
theorem get_3 (y m d h mi s : Int) (hy : 0 ≤ y) (hh : 0 ≤ h) (hh2 : h ≤ 23) (w : World) :
    Calls Tryd.prog 73 #[.agg #[.int .i64 y, .int .i64 m, .int .i64 d, .int .i64 h, .int .i64 mi, .int .i64 s]] w fun e w' => e = .returned (.int .i64 (d)) ∧ Below w.heap.size w w' := by
  obtain ⟨c0, c1, c2, c3, c4, c5⟩ := cells6_new w (.int .i64 y) (.int .i64 m) (.int .i64 d) (.int .i64 h) (.int .i64 mi) (.int .i64 s) 30
  have HB := Lib.hid (below_alloc1 w (.cells #[.int .i64 y, .int .i64 m, .int .i64 d, .int .i64 h, .int .i64 mi, .int .i64 s] 30))
  go_enter Tryd.func73, Tryd.ntmps73
  go_wp2_with fail
  go_ret
  exact ⟨ret_int (by first | rfl | omega), HB.out⟩
set_option maxRecDepth 100000 in
set_option maxHeartbeats 1600000 in
theorem of_3 (t : Int) (ht : -62135596800 ≤ t) (ht2 : t ≤ 300000000000) (a : Nat) (W : World) (hc : W.cell? ⟨a, 0, none⟩ = some (.func (.func 73) #[] #[])) :
    Calls Tryd.prog 71 #[.int .i64 t, .pointer (some ⟨a, 0, none⟩)] W fun e w' => e = .returned (.int .i64 ((dateC t).d)) ∧ Below W.heap.size W w' := by
  have HD := Lib.hid (fun W => date_any t ht ht2 W)
  have hok := (dateC_ok ht).1
  have hlt : a < W.heap.size := cell_lt hc
  have h1 := hok.date.y1; have h2 := hok.h0; have h3 := hok.h1
  generalize dateC t = D at *
  obtain ⟨y, m, d, h, mi, s⟩ := D
  simp only [DT.v] at *
  have HG := Lib.hid (fun W => get_3 y m d h mi s (by omega) h2 h3 W)
  clear hok h1 h2 h3 ht ht2
  go_enter Tryd.func71, Tryd.ntmps71
  go_wp2_with fail
  go_region_with (first | (go_at_call 53; refine (HD.out _).mono ?_; rintro e w1 ⟨rfl, hb1⟩; have hc1 := (hb1.cell (p := ⟨a, 0, none⟩) (by simpa using hlt)).trans (by simpa using hc)) | (go_at_call 73; refine (HG.out _).mono ?_; rintro e w2 ⟨rfl, hb2⟩))
  all_goals (go_wp2_with fail; go_ret; exact ⟨rfl, by exact ((Below.refl W.heap.size W).drew).trans (hb1.trans (hb2.mono hb1.size))⟩)

set_option maxRecDepth 100000 in
theorem get_4 (y m d h mi s : Int) (hy : 0 ≤ y) (hh : 0 ≤ h) (hh2 : h ≤ 23) (w : World) :
    Calls Tryd.prog 74 #[.agg #[.int .i64 y, .int .i64 m, .int .i64 d, .int .i64 h, .int .i64 mi, .int .i64 s]] w fun e w' => e = .returned (.int .i64 (y)) ∧ Below w.heap.size w w' := by
  obtain ⟨c0, c1, c2, c3, c4, c5⟩ := cells6_new w (.int .i64 y) (.int .i64 m) (.int .i64 d) (.int .i64 h) (.int .i64 mi) (.int .i64 s) 30
  have HB := Lib.hid (below_alloc1 w (.cells #[.int .i64 y, .int .i64 m, .int .i64 d, .int .i64 h, .int .i64 mi, .int .i64 s] 30))
  go_enter Tryd.func74, Tryd.ntmps74
  go_wp2_with fail
  go_ret
  exact ⟨ret_int (by first | rfl | omega), HB.out⟩
set_option maxRecDepth 100000 in
set_option maxHeartbeats 1600000 in
theorem of_4 (t : Int) (ht : -62135596800 ≤ t) (ht2 : t ≤ 300000000000) (a : Nat) (W : World) (hc : W.cell? ⟨a, 0, none⟩ = some (.func (.func 74) #[] #[])) :
    Calls Tryd.prog 71 #[.int .i64 t, .pointer (some ⟨a, 0, none⟩)] W fun e w' => e = .returned (.int .i64 ((dateC t).y)) ∧ Below W.heap.size W w' := by
  have HD := Lib.hid (fun W => date_any t ht ht2 W)
  have hok := (dateC_ok ht).1
  have hlt : a < W.heap.size := cell_lt hc
  have h1 := hok.date.y1; have h2 := hok.h0; have h3 := hok.h1
  generalize dateC t = D at *
  obtain ⟨y, m, d, h, mi, s⟩ := D
  simp only [DT.v] at *
  have HG := Lib.hid (fun W => get_4 y m d h mi s (by omega) h2 h3 W)
  clear hok h1 h2 h3 ht ht2
  go_enter Tryd.func71, Tryd.ntmps71
  go_wp2_with fail
  go_region_with (first | (go_at_call 53; refine (HD.out _).mono ?_; rintro e w1 ⟨rfl, hb1⟩; have hc1 := (hb1.cell (p := ⟨a, 0, none⟩) (by simpa using hlt)).trans (by simpa using hc)) | (go_at_call 74; refine (HG.out _).mono ?_; rintro e w2 ⟨rfl, hb2⟩))
  all_goals (go_wp2_with fail; go_ret; exact ⟨rfl, by exact ((Below.refl W.heap.size W).drew).trans (hb1.trans (hb2.mono hb1.size))⟩)

set_option maxRecDepth 100000 in
theorem get_5 (y m d h mi s : Int) (hy : 0 ≤ y) (hh : 0 ≤ h) (hh2 : h ≤ 23) (w : World) :
    Calls Tryd.prog 75 #[.agg #[.int .i64 y, .int .i64 m, .int .i64 d, .int .i64 h, .int .i64 mi, .int .i64 s]] w fun e w' => e = .returned (.int .i64 (y % 100)) ∧ Below w.heap.size w w' := by
  obtain ⟨c0, c1, c2, c3, c4, c5⟩ := cells6_new w (.int .i64 y) (.int .i64 m) (.int .i64 d) (.int .i64 h) (.int .i64 mi) (.int .i64 s) 30
  have HB := Lib.hid (below_alloc1 w (.cells #[.int .i64 y, .int .i64 m, .int .i64 d, .int .i64 h, .int .i64 mi, .int .i64 s] 30))
  go_enter Tryd.func75, Tryd.ntmps75
  go_wp2_with fail
  go_ret
  exact ⟨ret_int (by first | rfl | omega), HB.out⟩
set_option maxRecDepth 100000 in
set_option maxHeartbeats 1600000 in
theorem of_5 (t : Int) (ht : -62135596800 ≤ t) (ht2 : t ≤ 300000000000) (a : Nat) (W : World) (hc : W.cell? ⟨a, 0, none⟩ = some (.func (.func 75) #[] #[])) :
    Calls Tryd.prog 71 #[.int .i64 t, .pointer (some ⟨a, 0, none⟩)] W fun e w' => e = .returned (.int .i64 ((dateC t).y % 100)) ∧ Below W.heap.size W w' := by
  have HD := Lib.hid (fun W => date_any t ht ht2 W)
  have hok := (dateC_ok ht).1
  have hlt : a < W.heap.size := cell_lt hc
  have h1 := hok.date.y1; have h2 := hok.h0; have h3 := hok.h1
  generalize dateC t = D at *
  obtain ⟨y, m, d, h, mi, s⟩ := D
  simp only [DT.v] at *
  have HG := Lib.hid (fun W => get_5 y m d h mi s (by omega) h2 h3 W)
  clear hok h1 h2 h3 ht ht2
  go_enter Tryd.func71, Tryd.ntmps71
  go_wp2_with fail
  go_region_with (first | (go_at_call 53; refine (HD.out _).mono ?_; rintro e w1 ⟨rfl, hb1⟩; have hc1 := (hb1.cell (p := ⟨a, 0, none⟩) (by simpa using hlt)).trans (by simpa using hc)) | (go_at_call 75; refine (HG.out _).mono ?_; rintro e w2 ⟨rfl, hb2⟩))
  all_goals (go_wp2_with fail; go_ret; exact ⟨rfl, by exact ((Below.refl W.heap.size W).drew).trans (hb1.trans (hb2.mono hb1.size))⟩)

set_option maxRecDepth 100000 in
theorem get_6 (y m d h mi s : Int) (hy : 0 ≤ y) (hh : 0 ≤ h) (hh2 : h ≤ 23) (w : World) :
    Calls Tryd.prog 76 #[.agg #[.int .i64 y, .int .i64 m, .int .i64 d, .int .i64 h, .int .i64 mi, .int .i64 s]] w fun e w' => e = .returned (.int .i64 (h)) ∧ Below w.heap.size w w' := by
  obtain ⟨c0, c1, c2, c3, c4, c5⟩ := cells6_new w (.int .i64 y) (.int .i64 m) (.int .i64 d) (.int .i64 h) (.int .i64 mi) (.int .i64 s) 30
  have HB := Lib.hid (below_alloc1 w (.cells #[.int .i64 y, .int .i64 m, .int .i64 d, .int .i64 h, .int .i64 mi, .int .i64 s] 30))
  go_enter Tryd.func76, Tryd.ntmps76
  go_wp2_with fail
  go_ret
  exact ⟨ret_int (by first | rfl | omega), HB.out⟩
set_option maxRecDepth 100000 in
set_option maxHeartbeats 1600000 in
theorem of_6 (t : Int) (ht : -62135596800 ≤ t) (ht2 : t ≤ 300000000000) (a : Nat) (W : World) (hc : W.cell? ⟨a, 0, none⟩ = some (.func (.func 76) #[] #[])) :
    Calls Tryd.prog 71 #[.int .i64 t, .pointer (some ⟨a, 0, none⟩)] W fun e w' => e = .returned (.int .i64 ((dateC t).h)) ∧ Below W.heap.size W w' := by
  have HD := Lib.hid (fun W => date_any t ht ht2 W)
  have hok := (dateC_ok ht).1
  have hlt : a < W.heap.size := cell_lt hc
  have h1 := hok.date.y1; have h2 := hok.h0; have h3 := hok.h1
  generalize dateC t = D at *
  obtain ⟨y, m, d, h, mi, s⟩ := D
  simp only [DT.v] at *
  have HG := Lib.hid (fun W => get_6 y m d h mi s (by omega) h2 h3 W)
  clear hok h1 h2 h3 ht ht2
  go_enter Tryd.func71, Tryd.ntmps71
  go_wp2_with fail
  go_region_with (first | (go_at_call 53; refine (HD.out _).mono ?_; rintro e w1 ⟨rfl, hb1⟩; have hc1 := (hb1.cell (p := ⟨a, 0, none⟩) (by simpa using hlt)).trans (by simpa using hc)) | (go_at_call 76; refine (HG.out _).mono ?_; rintro e w2 ⟨rfl, hb2⟩))
  all_goals (go_wp2_with fail; go_ret; exact ⟨rfl, by exact ((Below.refl W.heap.size W).drew).trans (hb1.trans (hb2.mono hb1.size))⟩)

set_option maxRecDepth 100000 in
theorem get_7 (y m d h mi s : Int) (hy : 0 ≤ y) (hh : 0 ≤ h) (hh2 : h ≤ 23) (w : World) :
    Calls Tryd.prog 77 #[.agg #[.int .i64 y, .int .i64 m, .int .i64 d, .int .i64 h, .int .i64 mi, .int .i64 s]] w fun e w' => e = .returned (.int .i64 (mi)) ∧ Below w.heap.size w w' := by
  obtain ⟨c0, c1, c2, c3, c4, c5⟩ := cells6_new w (.int .i64 y) (.int .i64 m) (.int .i64 d) (.int .i64 h) (.int .i64 mi) (.int .i64 s) 30
  have HB := Lib.hid (below_alloc1 w (.cells #[.int .i64 y, .int .i64 m, .int .i64 d, .int .i64 h, .int .i64 mi, .int .i64 s] 30))
  go_enter Tryd.func77, Tryd.ntmps77
  go_wp2_with fail
  go_ret
  exact ⟨ret_int (by first | rfl | omega), HB.out⟩
set_option maxRecDepth 100000 in
set_option maxHeartbeats 1600000 in
theorem of_7 (t : Int) (ht : -62135596800 ≤ t) (ht2 : t ≤ 300000000000) (a : Nat) (W : World) (hc : W.cell? ⟨a, 0, none⟩ = some (.func (.func 77) #[] #[])) :
    Calls Tryd.prog 71 #[.int .i64 t, .pointer (some ⟨a, 0, none⟩)] W fun e w' => e = .returned (.int .i64 ((dateC t).mi)) ∧ Below W.heap.size W w' := by
  have HD := Lib.hid (fun W => date_any t ht ht2 W)
  have hok := (dateC_ok ht).1
  have hlt : a < W.heap.size := cell_lt hc
  have h1 := hok.date.y1; have h2 := hok.h0; have h3 := hok.h1
  generalize dateC t = D at *
  obtain ⟨y, m, d, h, mi, s⟩ := D
  simp only [DT.v] at *
  have HG := Lib.hid (fun W => get_7 y m d h mi s (by omega) h2 h3 W)
  clear hok h1 h2 h3 ht ht2
  go_enter Tryd.func71, Tryd.ntmps71
  go_wp2_with fail
  go_region_with (first | (go_at_call 53; refine (HD.out _).mono ?_; rintro e w1 ⟨rfl, hb1⟩; have hc1 := (hb1.cell (p := ⟨a, 0, none⟩) (by simpa using hlt)).trans (by simpa using hc)) | (go_at_call 77; refine (HG.out _).mono ?_; rintro e w2 ⟨rfl, hb2⟩))
  all_goals (go_wp2_with fail; go_ret; exact ⟨rfl, by exact ((Below.refl W.heap.size W).drew).trans (hb1.trans (hb2.mono hb1.size))⟩)

set_option maxRecDepth 100000 in
theorem get_8 (y m d h mi s : Int) (hy : 0 ≤ y) (hh : 0 ≤ h) (hh2 : h ≤ 23) (w : World) :
    Calls Tryd.prog 78 #[.agg #[.int .i64 y, .int .i64 m, .int .i64 d, .int .i64 h, .int .i64 mi, .int .i64 s]] w fun e w' => e = .returned (.int .i64 (s)) ∧ Below w.heap.size w w' := by
  obtain ⟨c0, c1, c2, c3, c4, c5⟩ := cells6_new w (.int .i64 y) (.int .i64 m) (.int .i64 d) (.int .i64 h) (.int .i64 mi) (.int .i64 s) 30
  have HB := Lib.hid (below_alloc1 w (.cells #[.int .i64 y, .int .i64 m, .int .i64 d, .int .i64 h, .int .i64 mi, .int .i64 s] 30))
  go_enter Tryd.func78, Tryd.ntmps78
  go_wp2_with fail
  go_ret
  exact ⟨ret_int (by first | rfl | omega), HB.out⟩
set_option maxRecDepth 100000 in
set_option maxHeartbeats 1600000 in
theorem of_8 (t : Int) (ht : -62135596800 ≤ t) (ht2 : t ≤ 300000000000) (a : Nat) (W : World) (hc : W.cell? ⟨a, 0, none⟩ = some (.func (.func 78) #[] #[])) :
    Calls Tryd.prog 71 #[.int .i64 t, .pointer (some ⟨a, 0, none⟩)] W fun e w' => e = .returned (.int .i64 ((dateC t).s)) ∧ Below W.heap.size W w' := by
  have HD := Lib.hid (fun W => date_any t ht ht2 W)
  have hok := (dateC_ok ht).1
  have hlt : a < W.heap.size := cell_lt hc
  have h1 := hok.date.y1; have h2 := hok.h0; have h3 := hok.h1
  generalize dateC t = D at *
  obtain ⟨y, m, d, h, mi, s⟩ := D
  simp only [DT.v] at *
  have HG := Lib.hid (fun W => get_8 y m d h mi s (by omega) h2 h3 W)
  clear hok h1 h2 h3 ht ht2
  go_enter Tryd.func71, Tryd.ntmps71
  go_wp2_with fail
  go_region_with (first | (go_at_call 53; refine (HD.out _).mono ?_; rintro e w1 ⟨rfl, hb1⟩; have hc1 := (hb1.cell (p := ⟨a, 0, none⟩) (by simpa using hlt)).trans (by simpa using hc)) | (go_at_call 78; refine (HG.out _).mono ?_; rintro e w2 ⟨rfl, hb2⟩))
  all_goals (go_wp2_with fail; go_ret; exact ⟨rfl, by exact ((Below.refl W.heap.size W).drew).trans (hb1.trans (hb2.mono hb1.size))⟩)

set_option maxRecDepth 100000 in
theorem get_9 (y m d h mi s : Int) (hy : 0 ≤ y) (hh : 0 ≤ h) (hh2 : h ≤ 23) (w : World) :
    Calls Tryd.prog 79 #[.agg #[.int .i64 y, .int .i64 m, .int .i64 d, .int .i64 h, .int .i64 mi, .int .i64 s]] w fun e w' => e = .returned (.int .i64 ((h + 11) % 12 + 1)) ∧ Below w.heap.size w w' := by
  obtain ⟨c0, c1, c2, c3, c4, c5⟩ := cells6_new w (.int .i64 y) (.int .i64 m) (.int .i64 d) (.int .i64 h) (.int .i64 mi) (.int .i64 s) 30
  have HB := Lib.hid (below_alloc1 w (.cells #[.int .i64 y, .int .i64 m, .int .i64 d, .int .i64 h, .int .i64 mi, .int .i64 s] 30))
  go_enter Tryd.func79, Tryd.ntmps79
  go_wp2_with fail
  go_ret
  exact ⟨ret_int (by first | rfl | omega), HB.out⟩
set_option maxRecDepth 100000 in
set_option maxHeartbeats 1600000 in
theorem of_9 (t : Int) (ht : -62135596800 ≤ t) (ht2 : t ≤ 300000000000) (a : Nat) (W : World) (hc : W.cell? ⟨a, 0, none⟩ = some (.func (.func 79) #[] #[])) :
    Calls Tryd.prog 71 #[.int .i64 t, .pointer (some ⟨a, 0, none⟩)] W fun e w' => e = .returned (.int .i64 (((dateC t).h + 11) % 12 + 1)) ∧ Below W.heap.size W w' := by
  have HD := Lib.hid (fun W => date_any t ht ht2 W)
  have hok := (dateC_ok ht).1
  have hlt : a < W.heap.size := cell_lt hc
  have h1 := hok.date.y1; have h2 := hok.h0; have h3 := hok.h1
  generalize dateC t = D at *
  obtain ⟨y, m, d, h, mi, s⟩ := D
  simp only [DT.v] at *
  have HG := Lib.hid (fun W => get_9 y m d h mi s (by omega) h2 h3 W)
  clear hok h1 h2 h3 ht ht2
  go_enter Tryd.func71, Tryd.ntmps71
  go_wp2_with fail
  go_region_with (first | (go_at_call 53; refine (HD.out _).mono ?_; rintro e w1 ⟨rfl, hb1⟩; have hc1 := (hb1.cell (p := ⟨a, 0, none⟩) (by simpa using hlt)).trans (by simpa using hc)) | (go_at_call 79; refine (HG.out _).mono ?_; rintro e w2 ⟨rfl, hb2⟩))
  all_goals (go_wp2_with fail; go_ret; exact ⟨rfl, by exact ((Below.refl W.heap.size W).drew).trans (hb1.trans (hb2.mono hb1.size))⟩)

set_option maxRecDepth 100000 in
theorem get_10 (y m d h mi s : Int) (hy : 0 ≤ y) (hh : 0 ≤ h) (hh2 : h ≤ 23) (w : World) :
    Calls Tryd.prog 80 #[.agg #[.int .i64 y, .int .i64 m, .int .i64 d, .int .i64 h, .int .i64 mi, .int .i64 s]] w fun e w' => e = .returned (.int .i64 (h / 12 + 1)) ∧ Below w.heap.size w w' := by
  obtain ⟨c0, c1, c2, c3, c4, c5⟩ := cells6_new w (.int .i64 y) (.int .i64 m) (.int .i64 d) (.int .i64 h) (.int .i64 mi) (.int .i64 s) 30
  have HB := Lib.hid (below_alloc1 w (.cells #[.int .i64 y, .int .i64 m, .int .i64 d, .int .i64 h, .int .i64 mi, .int .i64 s] 30))
  go_enter Tryd.func80, Tryd.ntmps80
  go_wp2_with fail
  go_ret
  exact ⟨ret_int (by first | rfl | omega), HB.out⟩
set_option maxRecDepth 100000 in
set_option maxHeartbeats 1600000 in
theorem of_10 (t : Int) (ht : -62135596800 ≤ t) (ht2 : t ≤ 300000000000) (a : Nat) (W : World) (hc : W.cell? ⟨a, 0, none⟩ = some (.func (.func 80) #[] #[])) :
    Calls Tryd.prog 71 #[.int .i64 t, .pointer (some ⟨a, 0, none⟩)] W fun e w' => e = .returned (.int .i64 ((dateC t).h / 12 + 1)) ∧ Below W.heap.size W w' := by
  have HD := Lib.hid (fun W => date_any t ht ht2 W)
  have hok := (dateC_ok ht).1
  have hlt : a < W.heap.size := cell_lt hc
  have h1 := hok.date.y1; have h2 := hok.h0; have h3 := hok.h1
  generalize dateC t = D at *
  obtain ⟨y, m, d, h, mi, s⟩ := D
  simp only [DT.v] at *
  have HG := Lib.hid (fun W => get_10 y m d h mi s (by omega) h2 h3 W)
  clear hok h1 h2 h3 ht ht2
  go_enter Tryd.func71, Tryd.ntmps71
  go_wp2_with fail
  go_region_with (first | (go_at_call 53; refine (HD.out _).mono ?_; rintro e w1 ⟨rfl, hb1⟩; have hc1 := (hb1.cell (p := ⟨a, 0, none⟩) (by simpa using hlt)).trans (by simpa using hc)) | (go_at_call 80; refine (HG.out _).mono ?_; rintro e w2 ⟨rfl, hb2⟩))
  all_goals (go_wp2_with fail; go_ret; exact ⟨rfl, by exact ((Below.refl W.heap.size W).drew).trans (hb1.trans (hb2.mono hb1.size))⟩)
end Go.Proofs.YtmidphmniikdpaaDoor
