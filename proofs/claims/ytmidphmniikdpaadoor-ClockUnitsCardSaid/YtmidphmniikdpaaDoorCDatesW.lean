/- For all times, dates, years and months, 'ClockDates' returns true: Valid, Date, Time, Leap and Days are those of the reference, and undo each other: the walk. -/
import Derived.Test.YtmidphmniikdpaaDoorCAwake
import Derived.Deep.RegionHeld3
namespace Go.Proofs.YtmidphmniikdpaaDoor
set_option linter.unusedVariables false
set_option linter.unusedSimpArgs false
open Go.RowKit
theorem cells6_step {w w' : World} {n : Nat} {a b c d e f : Value} (h : Below w.heap.size w w') (h0 : w.cell? ⟨n, 0, none⟩ = some a) (h1 : w.cell? ⟨n, 1, none⟩ = some b) (h2 : w.cell? ⟨n, 2, none⟩ = some c) (h3 : w.cell? ⟨n, 3, none⟩ = some d) (h4 : w.cell? ⟨n, 4, none⟩ = some e) (h5 : w.cell? ⟨n, 5, none⟩ = some f) :
    w'.cell? ⟨n, 0, none⟩ = some a ∧ w'.cell? ⟨n, 1, none⟩ = some b ∧ w'.cell? ⟨n, 2, none⟩ = some c ∧ w'.cell? ⟨n, 3, none⟩ = some d ∧ w'.cell? ⟨n, 4, none⟩ = some e ∧ w'.cell? ⟨n, 5, none⟩ = some f :=
  ⟨(h.cell (cell_lt h0)).trans h0, (h.cell (cell_lt h1)).trans h1, (h.cell (cell_lt h2)).trans h2, (h.cell (cell_lt h3)).trans h3, (h.cell (cell_lt h4)).trans h4, (h.cell (cell_lt h5)).trans h5⟩
theorem time_date {t : Int} (hv : validI t = true) : timeC (dateC t).y (dateC t).m (dateC t).d (dateC t).h (dateC t).mi (dateC t).s = (t, 0) := by
  have h := (validI_iff t).1 hv
  obtain ⟨hok, ht⟩ := dateC_ok h.1
  have hy := year_le hok (by omega)
  unfold timeC
  rw [if_pos]
  · rw [show (dayNo (dateC t).y (dateC t).m (dateC t).d - 719162) * 86400 + (dateC t).h * 3600 + (dateC t).mi * 60 + (dateC t).s = t from ht]
  · have := hok.date.y1; have := hok.date.m1; have := hok.date.m12; have := hok.date.d1; have := hok.date.dn; have := hok.h0; have := hok.h1; have := hok.mi0; have := hok.mi1; have := hok.s0; have := hok.s1
    simp only [validB, decide_eq_true_eq]
    omega
theorem date_time {y m d h mi s : Int} (hv : validB y m d h mi s = true) : validI ((dayNo y m d - 719162) * 86400 + h * 3600 + mi * 60 + s) = true ∧ dateC ((dayNo y m d - 719162) * 86400 + h * 3600 + mi * 60 + s) = ⟨y, m, d, h, mi, s⟩ := by
  simp only [validB, decide_eq_true_eq] at hv
  have hok : DT.Ok ⟨y, m, d, h, mi, s⟩ := ⟨⟨by simp only; omega, by simp only; omega, by simp only; omega, by simp only; omega, by simp only; omega⟩, by simp only; omega, by simp only; omega, by simp only; omega, by simp only; omega, by simp only; omega, by simp only; omega⟩
  have h1 := time_le hok (by simp only; omega)
  have h2 := dateC_of hok
  rw [show DT.time ⟨y, m, d, h, mi, s⟩ = (dayNo y m d - 719162) * 86400 + h * 3600 + mi * 60 + s from rfl] at h1 h2
  exact ⟨(validI_iff _).2 ⟨h1.2, h1.1⟩, h2⟩

set_option maxRecDepth 100000 in
set_option maxHeartbeats 6400000 in
theorem dates_walk (t y m d h mi s yr mo : Int) (a1 a2 a3 a4 a5 a6 e c g : Int) (w : World) (hT : SpaceIs w) (hP : PowIs w)
    (hD : datesC t = (⟨a1, a2, a3, a4, a5, a6⟩, e)) (hTm : timeC y m d h mi s = (c, g)) (he : (e = 0 ∧ timeC a1 a2 a3 a4 a5 a6 = (t, 0)) ∨ e = 7) (hg : (g = 0 ∧ datesC c = (⟨y, m, d, h, mi, s⟩, 0)) ∨ g = 1) :
    Calls Tryd.prog 5 #[.int .i64 t, .agg #[.int .i64 y, .int .i64 m, .int .i64 d, .int .i64 h, .int .i64 mi, .int .i64 s], .int .i64 yr, .int .i64 mo] w fun e w' => e = .returned (.bool true) ∧ Below w.heap.size w w' := by
  have D1 := Lib.hid (fun W => Date_any t W)
  have D2 := Lib.hid (fun W => rDate_any t W)
  rw [hD] at D1 D2
  have T1 := Lib.hid (fun W => Time_any y m d h mi s W)
  have T2 := Lib.hid (fun W => rTime_any y m d h mi s W)
  rw [hTm] at T1 T2
  have L1 := Lib.hid (fun W => Leap_any yr W)
  have L2 := Lib.hid (fun W => rLeap_any yr W)
  generalize leapC yr = lp at *
  obtain ⟨lb, le⟩ := lp
  have Y1 := Lib.hid (fun W => Days_any yr mo W)
  have Y2 := Lib.hid (fun W => rDays_any yr mo W)
  generalize daysC yr mo = dp at *
  obtain ⟨dv, de⟩ := dp
  have V1 := Lib.hid (fun W => Valid_any y m d h mi s W)
  have V2 := Lib.hid (fun W => rValid_any y m d h mi s W)
  generalize validB y m d h mi s = vb at *
  have TA : Hid (e = 0 → ∀ W, Calls Tryd.prog 17 #[.agg #[.int .i64 a1, .int .i64 a2, .int .i64 a3, .int .i64 a4, .int .i64 a5, .int .i64 a6]] W fun e' w' => e' = .returned (.tuple #[.int .i64 t, .int .i64 0]) ∧ Below W.heap.size W w') := by
    intro h0 W
    rcases he with ⟨_, h1⟩ | h1
    · have := Time_any a1 a2 a3 a4 a5 a6 W
      rw [h1] at this
      exact this
    · omega
  have DC : Hid (g = 0 → ∀ W, Calls Tryd.prog 15 #[.int .i64 c] W fun e' w' => e' = .returned (.tuple #[.agg #[.int .i64 y, .int .i64 m, .int .i64 d, .int .i64 h, .int .i64 mi, .int .i64 s], .int .i64 0]) ∧ Below W.heap.size W w') := by
    intro h0 W
    rcases hg with ⟨_, h1⟩ | h1
    · have := Date_any c W
      rw [h1] at this
      exact this
    · omega
  have he2 : e = 0 ∨ e = 7 := by rcases he with h | h <;> omega
  have hg2 : g = 0 ∨ g = 1 := by rcases hg with h | h <;> omega
  simp only [DT.v] at D1 D2
  obtain ⟨cd0, cd1, cd2, cd3, cd4, cd5⟩ := cells6_new w (.int .i64 y) (.int .i64 m) (.int .i64 d) (.int .i64 h) (.int .i64 mi) (.int .i64 s) 30
  have HB := Lib.hid (below_alloc1 w (.cells #[.int .i64 y, .int .i64 m, .int .i64 d, .int .i64 h, .int .i64 mi, .int .i64 s] 30))
  have HT := Lib.hid hT
  have HP := Lib.hid hP
  clear hT hP hD hTm he hg
  rcases he2 with rfl | rfl <;> rcases hg2 with rfl | rfl
  all_goals
    go_enter Tryd.func5, Tryd.ntmps5
    go_wp2_with (first
      | (go_at_call_of 15 t; refine (D1.out _).mono ?_; rintro e w1 ⟨rfl, hb1⟩; obtain ⟨cd0, cd1, cd2, cd3, cd4, cd5⟩ := cells6_step hb1 cd0 cd1 cd2 cd3 cd4 cd5; obtain ⟨cd0, cd1, cd2, cd3, cd4, cd5⟩ := cells6_step (below_alloc1 w1 (.cells #[.int .i64 a1, .int .i64 a2, .int .i64 a3, .int .i64 a4, .int .i64 a5, .int .i64 a6] 30)) cd0 cd1 cd2 cd3 cd4 cd5; obtain ⟨ca0, ca1, ca2, ca3, ca4, ca5⟩ := cells6_new w1 (.int .i64 a1) (.int .i64 a2) (.int .i64 a3) (.int .i64 a4) (.int .i64 a5) (.int .i64 a6) 30; have HB1 := Lib.hid ((HB.out.trans (hb1.mono HB.out.size)).alloc (Nat.le_trans HB.out.size hb1.size) (.cells #[.int .i64 a1, .int .i64 a2, .int .i64 a3, .int .i64 a4, .int .i64 a5, .int .i64 a6] 30)); clear hb1)
      | (go_at_call_of 16 t; refine (D2.out _).mono ?_; rintro e w2 ⟨rfl, hb2⟩; obtain ⟨cd0, cd1, cd2, cd3, cd4, cd5⟩ := cells6_step hb2 cd0 cd1 cd2 cd3 cd4 cd5; obtain ⟨ca0, ca1, ca2, ca3, ca4, ca5⟩ := cells6_step hb2 ca0 ca1 ca2 ca3 ca4 ca5; obtain ⟨cd0, cd1, cd2, cd3, cd4, cd5⟩ := cells6_step (below_alloc1 w2 (.cells #[.int .i64 a1, .int .i64 a2, .int .i64 a3, .int .i64 a4, .int .i64 a5, .int .i64 a6] 30)) cd0 cd1 cd2 cd3 cd4 cd5; obtain ⟨ca0, ca1, ca2, ca3, ca4, ca5⟩ := cells6_step (below_alloc1 w2 (.cells #[.int .i64 a1, .int .i64 a2, .int .i64 a3, .int .i64 a4, .int .i64 a5, .int .i64 a6] 30)) ca0 ca1 ca2 ca3 ca4 ca5; obtain ⟨cb0, cb1, cb2, cb3, cb4, cb5⟩ := cells6_new w2 (.int .i64 a1) (.int .i64 a2) (.int .i64 a3) (.int .i64 a4) (.int .i64 a5) (.int .i64 a6) 30; have HB2 := Lib.hid ((HB1.out.trans (hb2.mono HB1.out.size)).alloc (Nat.le_trans HB1.out.size hb2.size) (.cells #[.int .i64 a1, .int .i64 a2, .int .i64 a3, .int .i64 a4, .int .i64 a5, .int .i64 a6] 30)); clear hb2)
      | (go_at_call 17; refine (T1.out _).mono ?_; rintro e w3 ⟨rfl, hb3⟩; obtain ⟨cd0, cd1, cd2, cd3, cd4, cd5⟩ := cells6_step hb3 cd0 cd1 cd2 cd3 cd4 cd5; obtain ⟨ca0, ca1, ca2, ca3, ca4, ca5⟩ := cells6_step hb3 ca0 ca1 ca2 ca3 ca4 ca5; obtain ⟨cb0, cb1, cb2, cb3, cb4, cb5⟩ := cells6_step hb3 cb0 cb1 cb2 cb3 cb4 cb5; have HB3 := Lib.hid (HB2.out.trans (hb3.mono HB2.out.size)); clear hb3)
      | (go_at_call 18; refine (T2.out _).mono ?_; rintro e w4 ⟨rfl, hb4⟩; obtain ⟨cd0, cd1, cd2, cd3, cd4, cd5⟩ := cells6_step hb4 cd0 cd1 cd2 cd3 cd4 cd5; obtain ⟨ca0, ca1, ca2, ca3, ca4, ca5⟩ := cells6_step hb4 ca0 ca1 ca2 ca3 ca4 ca5; obtain ⟨cb0, cb1, cb2, cb3, cb4, cb5⟩ := cells6_step hb4 cb0 cb1 cb2 cb3 cb4 cb5; have HB4 := Lib.hid (HB3.out.trans (hb4.mono HB3.out.size)); clear hb4)
      | (go_at_call 19; refine (L1.out _).mono ?_; rintro e w5 ⟨rfl, rfl⟩)
      | (go_at_call 20; refine (L2.out _).mono ?_; rintro e w5 ⟨rfl, rfl⟩)
      | (go_at_call 21; refine (Y1.out _).mono ?_; rintro e w5 ⟨rfl, rfl⟩)
      | (go_at_call 22; refine (Y2.out _).mono ?_; rintro e w5 ⟨rfl, rfl⟩))
    obtain ⟨S0, hS0⟩ : ∃ S0 : World → Prop, S0 = fun w' => Below w4.heap.size w4 w' := ⟨_, rfl⟩
    have k0 : S0 w4 := by rw [hS0]; exact Below.refl _ _
    have k1 : ∀ W, S0 W → S0 W.drew := by intro W hW; rw [hS0] at hW ⊢; exact hW.drew
    have k2 : ∀ W W', S0 W → Below W.heap.size W W' → S0 W' ∧ W'.cell? ⟨w.heap.size, 0, none⟩ = some (.int .i64 y) ∧ W'.cell? ⟨w.heap.size, 1, none⟩ = some (.int .i64 m) ∧ W'.cell? ⟨w.heap.size, 2, none⟩ = some (.int .i64 d) ∧ W'.cell? ⟨w.heap.size, 3, none⟩ = some (.int .i64 h) ∧ W'.cell? ⟨w.heap.size, 4, none⟩ = some (.int .i64 mi) ∧ W'.cell? ⟨w.heap.size, 5, none⟩ = some (.int .i64 s) ∧ W'.cell? ⟨w1.heap.size, 0, none⟩ = some (.int .i64 a1) ∧ W'.cell? ⟨w1.heap.size, 1, none⟩ = some (.int .i64 a2) ∧ W'.cell? ⟨w1.heap.size, 2, none⟩ = some (.int .i64 a3) ∧ W'.cell? ⟨w1.heap.size, 3, none⟩ = some (.int .i64 a4) ∧ W'.cell? ⟨w1.heap.size, 4, none⟩ = some (.int .i64 a5) ∧ W'.cell? ⟨w1.heap.size, 5, none⟩ = some (.int .i64 a6) ∧ W'.cell? ⟨w2.heap.size, 0, none⟩ = some (.int .i64 a1) ∧ W'.cell? ⟨w2.heap.size, 1, none⟩ = some (.int .i64 a2) ∧ W'.cell? ⟨w2.heap.size, 2, none⟩ = some (.int .i64 a3) ∧ W'.cell? ⟨w2.heap.size, 3, none⟩ = some (.int .i64 a4) ∧ W'.cell? ⟨w2.heap.size, 4, none⟩ = some (.int .i64 a5) ∧ W'.cell? ⟨w2.heap.size, 5, none⟩ = some (.int .i64 a6) := by
      intro W W' hW hb
      have h2 : Below w4.heap.size w4 W' := by rw [hS0] at hW; exact hW.trans (hb.mono hW.size)
      have e1 := cells6_step h2 cd0 cd1 cd2 cd3 cd4 cd5
      have e2 := cells6_step h2 ca0 ca1 ca2 ca3 ca4 ca5
      have e3 := cells6_step h2 cb0 cb1 cb2 cb3 cb4 cb5
      exact ⟨by rw [hS0]; exact h2, e1.1, e1.2.1, e1.2.2.1, e1.2.2.2.1, e1.2.2.2.2.1, e1.2.2.2.2.2, e2.1, e2.2.1, e2.2.2.1, e2.2.2.2.1, e2.2.2.2.2.1, e2.2.2.2.2.2, e3.1, e3.2.1, e3.2.2.1, e3.2.2.2.1, e3.2.2.2.2.1, e3.2.2.2.2.2⟩
    have kB : Hid (∀ W, S0 W → Below w.heap.size w W) := by intro W hW; rw [hS0] at hW; exact HB4.out.trans (hW.mono HB4.out.size)
    have kC : Hid (∀ W W', S0 W → Below W.heap.size W W' → Below w.heap.size w W') := by intro W W' hW hb; have h := kB.out W hW; exact h.trans (hb.mono h.size)
    have K2 := Lib.hid k2
    clear hS0
    go_region_held3 (fun w' => S0 w' ∧ w'.cell? ⟨w.heap.size, 0, none⟩ = some (.int .i64 y) ∧ w'.cell? ⟨w.heap.size, 1, none⟩ = some (.int .i64 m) ∧ w'.cell? ⟨w.heap.size, 2, none⟩ = some (.int .i64 d) ∧ w'.cell? ⟨w.heap.size, 3, none⟩ = some (.int .i64 h) ∧ w'.cell? ⟨w.heap.size, 4, none⟩ = some (.int .i64 mi) ∧ w'.cell? ⟨w.heap.size, 5, none⟩ = some (.int .i64 s) ∧ w'.cell? ⟨w1.heap.size, 0, none⟩ = some (.int .i64 a1) ∧ w'.cell? ⟨w1.heap.size, 1, none⟩ = some (.int .i64 a2) ∧ w'.cell? ⟨w1.heap.size, 2, none⟩ = some (.int .i64 a3) ∧ w'.cell? ⟨w1.heap.size, 3, none⟩ = some (.int .i64 a4) ∧ w'.cell? ⟨w1.heap.size, 4, none⟩ = some (.int .i64 a5) ∧ w'.cell? ⟨w1.heap.size, 5, none⟩ = some (.int .i64 a6) ∧ w'.cell? ⟨w2.heap.size, 0, none⟩ = some (.int .i64 a1) ∧ w'.cell? ⟨w2.heap.size, 1, none⟩ = some (.int .i64 a2) ∧ w'.cell? ⟨w2.heap.size, 2, none⟩ = some (.int .i64 a3) ∧ w'.cell? ⟨w2.heap.size, 3, none⟩ = some (.int .i64 a4) ∧ w'.cell? ⟨w2.heap.size, 4, none⟩ = some (.int .i64 a5) ∧ w'.cell? ⟨w2.heap.size, 5, none⟩ = some (.int .i64 a6)) (first | go_keep | (exact k2 _ _ (by go_split_ands; assumption) hbx) | (exact k2 _ _ (k1 _ (by go_split_ands; assumption)) hbx) | (go_split_ands; exact ⟨k1 _ (by assumption), by assumption, by assumption, by assumption, by assumption, by assumption, by assumption, by assumption, by assumption, by assumption, by assumption, by assumption, by assumption, by assumption, by assumption, by assumption, by assumption, by assumption, by assumption⟩)) (first | (go_at_call 23; refine (V1.out _).mono ?_; rintro e w6 ⟨rfl, hbx⟩) | (go_at_call 24; refine (V2.out _).mono ?_; rintro e w6 ⟨rfl, hbx⟩))
    all_goals go_split_ands
    all_goals clear k2 k1
    all_goals
      go_wp2_with (first
        | (go_at_call 17; refine (TA.out (by first | trivial | rfl) _).mono ?_; rintro e w6 ⟨rfl, hb6⟩; obtain ⟨hs6, cd0, cd1, cd2, cd3, cd4, cd5, ca0, ca1, ca2, ca3, ca4, ca5, cb0, cb1, cb2, cb3, cb4, cb5⟩ := K2.out _ _ (by assumption) hb6; clear hb6)
        | (go_at_call 15; refine (DC.out (by first | trivial | rfl) _).mono ?_; rintro e w7 ⟨rfl, hb7⟩; obtain ⟨hs7, cd0, cd1, cd2, cd3, cd4, cd5, ca0, ca1, ca2, ca3, ca4, ca5, cb0, cb1, cb2, cb3, cb4, cb5⟩ := K2.out _ _ (by assumption) hb7; obtain ⟨cd0, cd1, cd2, cd3, cd4, cd5⟩ := cells6_step (below_alloc1 w7 (.cells #[.int .i64 y, .int .i64 m, .int .i64 d, .int .i64 h, .int .i64 mi, .int .i64 s] 30)) cd0 cd1 cd2 cd3 cd4 cd5; obtain ⟨cx0, cx1, cx2, cx3, cx4, cx5⟩ := cells6_new w7 (.int .i64 y) (.int .i64 m) (.int .i64 d) (.int .i64 h) (.int .i64 mi) (.int .i64 s) 30; have hs8 := (K2.out _ _ hs7 (below_alloc1 w7 (.cells #[.int .i64 y, .int .i64 m, .int .i64 d, .int .i64 h, .int .i64 mi, .int .i64 s] 30))).1; clear hb7)
        | (go_at_call 9; refine (awake_any _ ?_ ?_).mono ?_; exact HT.out.below (kB.out _ (by assumption)); exact HP.out.below (kB.out _ (by assumption)); rintro e w8 ⟨rfl, hb8⟩; have hfin := kC.out _ _ (by assumption) hb8))
      go_ret
      exact ⟨rfl, hfin⟩
end Go.Proofs.YtmidphmniikdpaaDoor
