/- Contracts of the clock's beginnings of units: Monday. -/
import Derived.Test.YtmidphmniikdpaaDoorCSta1
namespace Go.Proofs.YtmidphmniikdpaaDoor
set_option linter.unusedVariables false
set_option linter.unusedSimpArgs false
open Go.RowKit

theorem frozen6 {W : World} {g : Nat} {a b c d e f : Value} {t : Nat} (h : W.heap[g]? = some (.cells #[a, b, c, d, e, f] t)) (k : Nat) : W.frozen? ⟨g, k, none⟩ = false := by
  simp [World.frozen?, h]
theorem cell6 {W : World} {g : Nat} {a b c d e f : Value} {t : Nat} (h : W.heap[g]? = some (.cells #[a, b, c, d, e, f] t)) :
    W.cell? ⟨g, 0, none⟩ = some a ∧ W.cell? ⟨g, 1, none⟩ = some b ∧ W.cell? ⟨g, 2, none⟩ = some c ∧ W.cell? ⟨g, 3, none⟩ = some d ∧ W.cell? ⟨g, 4, none⟩ = some e ∧ W.cell? ⟨g, 5, none⟩ = some f := by
  refine ⟨?_, ?_, ?_, ?_, ?_, ?_⟩ <;> (simp only [World.cell?, h]; rfl)
set_option maxRecDepth 100000 in
set_option maxHeartbeats 3200000 in
theorem mon_any (t : Int) (hv : validI t = true) (c : Nat) (w : World) (hc : w.cell? ⟨c, 0, none⟩ = some (.func (.func 97) #[] #[])) :
    Calls Tryd.prog 99 #[(dateC t).v, .pointer (some ⟨c, 0, none⟩)] w fun e w' => e = .returned (dateC (startC t 4)).v ∧ Below w.heap.size w w' := by
  have hcl := cell_lt hc
  obtain ⟨hvT, hT4⟩ := week_time hv
  have hv4 := start_valid hv (u := 4) (by omega)
  have h4b := (validI_iff _).1 hv4
  have hTb := (validI_iff _).1 hvT
  obtain ⟨ok, -, hy⟩ := valid_date hv
  have p1 := ok.date.y1; have p2 := ok.date.m1; have p3 := ok.date.m12; have p4 := ok.date.d1; have p5 := ok.date.dn; have p6 := dim_ge (dateC t).y (dateC t).m
  have p7 : (dateC t).d ≤ 31 := by omega
  have hTe : (dayNo (dateC t).y (dateC t).m (dateC t).d - 719162) * 86400 + 0 * 3600 + 0 * 60 + 0 = ((dateC t).beg 3).time := rfl
  generalize ((dateC t).beg 3).time = T at *
  generalize startC t 4 = S at *
  have HWD := Lib.hid (fun W => weekday_any T hTb.1 (by omega) W)
  have HDT := Lib.hid (fun W => date_any S h4b.1 (by omega) W)
  have hk : 1 ≤ wdC T ∧ wdC T ≤ 7 := by unfold wdC; omega
  generalize wdC T = k at *
  generalize dateC S = DS at *
  obtain ⟨y', m', d', h', mi', s'⟩ := DS
  clear hv hv4 hvT ok p5 p6
  generalize dateC t = D at *
  obtain ⟨y, m, d, h, mi, s⟩ := D
  simp only [DT.v] at *
  have HTM := Lib.hid (fun W => time_any y m d 0 0 0 (by omega) (by omega) (by omega) (by omega) (by omega) (by omega) (by omega) (by omega) (by omega) (by omega) (by omega) (by omega) W)
  rw [hTe] at HTM
  have HBG : Hid (∀ (c : Nat) (W : World), W.cell? ⟨c, 0, none⟩ = some (.int .i64 3) → Calls Tryd.prog 98 #[.agg #[.int .i64 y, .int .i64 m, .int .i64 d, .int .i64 h, .int .i64 mi, .int .i64 s], .pointer (some ⟨c, 0, none⟩)] W fun e w' => e = .returned (.agg #[.int .i64 y, .int .i64 m, .int .i64 d, .int .i64 0, .int .i64 0, .int .i64 0]) ∧ Below W.heap.size W w') := fun c W hc => beg3_any y m d h mi s c W hc
  have HAT := Lib.hid (fun W => at_any 3 W)
  clear hTe
  obtain ⟨c0, c1, c2, c3, c4, c5⟩ := cells6_new w (.int .i64 y) (.int .i64 m) (.int .i64 d) (.int .i64 h) (.int .i64 mi) (.int .i64 s) 30
  have HB := Lib.hid (Below.refl ((w.alloc (.cells #[.int .i64 y, .int .i64 m, .int .i64 d, .int .i64 h, .int .i64 mi, .int .i64 s] 30)).alloc (.cells #[.int .i64 0, .int .i64 0, .int .i64 0, .int .i64 0, .int .i64 0, .int .i64 0] 30)).heap.size ((w.alloc (.cells #[.int .i64 y, .int .i64 m, .int .i64 d, .int .i64 h, .int .i64 mi, .int .i64 s] 30)).alloc (.cells #[.int .i64 0, .int .i64 0, .int .i64 0, .int .i64 0, .int .i64 0, .int .i64 0] 30)))
  have HW : Hid (Below w.heap.size w ((w.alloc (.cells #[.int .i64 y, .int .i64 m, .int .i64 d, .int .i64 h, .int .i64 mi, .int .i64 s] 30)).alloc (.cells #[.int .i64 0, .int .i64 0, .int .i64 0, .int .i64 0, .int .i64 0, .int .i64 0] 30))) := (below_alloc1 w (.cells #[.int .i64 y, .int .i64 m, .int .i64 d, .int .i64 h, .int .i64 mi, .int .i64 s] 30)).alloc (by simp) (.cells #[.int .i64 0, .int .i64 0, .int .i64 0, .int .i64 0, .int .i64 0, .int .i64 0] 30)
  have HG : Hid (((w.alloc (.cells #[.int .i64 y, .int .i64 m, .int .i64 d, .int .i64 h, .int .i64 mi, .int .i64 s] 30)).alloc (.cells #[.int .i64 0, .int .i64 0, .int .i64 0, .int .i64 0, .int .i64 0, .int .i64 0] 30)).heap[w.heap.size + 1]? = some (.cells #[.int .i64 0, .int .i64 0, .int .i64 0, .int .i64 0, .int .i64 0, .int .i64 0] 30)) := by
    show _ = _
    have h := heap_alloc_new (w.alloc (.cells #[.int .i64 y, .int .i64 m, .int .i64 d, .int .i64 h, .int .i64 mi, .int .i64 s] 30)) (.cells #[.int .i64 0, .int .i64 0, .int .i64 0, .int .i64 0, .int .i64 0, .int .i64 0] 30)
    simpa using h
  have HSZ : Hid (w.heap.size + 1 < ((w.alloc (.cells #[.int .i64 y, .int .i64 m, .int .i64 d, .int .i64 h, .int .i64 mi, .int .i64 s] 30)).alloc (.cells #[.int .i64 0, .int .i64 0, .int .i64 0, .int .i64 0, .int .i64 0, .int .i64 0] 30)).heap.size) := by show _ < _; simp
  have hc3 : ((((w.alloc (.cells #[.int .i64 y, .int .i64 m, .int .i64 d, .int .i64 h, .int .i64 mi, .int .i64 s] 30)).alloc (.cells #[.int .i64 0, .int .i64 0, .int .i64 0, .int .i64 0, .int .i64 0, .int .i64 0] 30)).alloc (.cells #[.int .i64 3] 79)).drew).cell? ⟨w.heap.size + 1 + 1, 0, none⟩ = some (.int .i64 3) := by
    have h := cells1_new ((w.alloc (.cells #[.int .i64 y, .int .i64 m, .int .i64 d, .int .i64 h, .int .i64 mi, .int .i64 s] 30)).alloc (.cells #[.int .i64 0, .int .i64 0, .int .i64 0, .int .i64 0, .int .i64 0, .int .i64 0] 30)) (.int .i64 3) 79
    simpa using h
  go_enter Tryd.func99, Tryd.ntmps99
  go_wp2_with fail
  go_region_with (first | (go_at_call 97; refine (HAT.out _).mono ?_; rintro e w1 ⟨rfl, rfl⟩; replace HB := Lib.hid (HB.out.alloc (Nat.le_refl _) (.cells #[.int .i64 3] 79)).drew) | (go_at_call 98; refine (HBG.out _ _ ?_).mono ?_; exact hc3; rintro e w2 ⟨rfl, hb2⟩; replace HB := Lib.hid (HB.out.trans (hb2.mono HB.out.size)); clear hb2) | (go_at_call 55; refine (HTM.out _).mono ?_; rintro e w3 ⟨rfl, hb3⟩; replace HB := Lib.hid (HB.out.trans (hb3.mono HB.out.size)); clear hb3))
  all_goals
    go_wp2_with (first | (go_at_call 52; refine (HWD.out _).mono ?_; rintro e w4 ⟨rfl, mm, rfl⟩; replace HB := Lib.hid (below_drewN HB.out mm)) | (go_at_call 53; refine (HDT.out _).mono ?_; rintro e w5 ⟨rfl, hb5⟩; replace HB := Lib.hid (HB.out.trans (hb5.mono HB.out.size)); clear hb5; have hgg := (HB.out.block _ HSZ.out).trans HG.out; obtain ⟨d0, d1, d2, d3, d4, d5⟩ := cell6 hgg; have z0 := frozen6 hgg 0; have z1 := frozen6 hgg 1; have z2 := frozen6 hgg 2; have z3 := frozen6 hgg 3; have z4 := frozen6 hgg 4; have z5 := frozen6 hgg 5; clear hgg))
    have hg6 := cells6_set _ _ _ _ _ _ _ _ _ _ (.int .i64 y') (.int .i64 m') (.int .i64 d') (.int .i64 h') (.int .i64 mi') (.int .i64 s') ((HB.out.block _ HSZ.out).trans HG.out)
    refine bodyPost_ret (date_result rfl _ _ _ _ _ _ rfl hg6 rfl) rfl ⟨rfl, ?_⟩
    exact below_set6 (HW.out.trans (HB.out.mono HW.out.size)) (by simp) _ _ _ _ _ _
end Go.Proofs.YtmidphmniikdpaaDoor
