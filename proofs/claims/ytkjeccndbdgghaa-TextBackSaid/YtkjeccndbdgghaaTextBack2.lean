/- 'TextBack': the walk, the second part. -/
import Derived.Test.YtkjeccndbdgghaaRows
import Derived.Test.YtkjeccndbdgghaaAwake1
import Derived.Test.YtkjeccndbdgghaaBackP
import Derived.HandedShaped
import Derived.Deep.RegionWith
import Derived.Test.YtkjeccndbdgghaaArgArr
namespace Go.Proofs.Ytkjeccndbdgghaa.textBack
open Go.ChangeShapes Go.WideShapes Go.ChangeAt Go.RowKit
open Go.ChangeMaps (open_string shut_string)
set_option linter.unusedVariables false


attribute [local go_sem] ba_append in
set_option maxRecDepth 100000 in
set_option maxHeartbeats 6400000 in
theorem walk2 (s t : Bs) (x0 x1 x2 : Int) (hs : s.length ≤ 9223372036854775807) (ht : t.length ≤ 9223372036854775807) (w : World) (m : Int) (hm : w.cell? ⟨0, 0, none⟩ = some (.int .i64 m)) (hl : isLong [s, t] = false) (a0 : ¬ x0 < 0) (a1 : ¬ 20 < x0) (a2 : ¬ x1 < 0) (a3 : ¬ 20 < x1) (hT : x0 ≤ x1 ∧ (s.length : Int) ≤ x1) :
    Calls Try.prog 8 #[.string ⟨s.toArray⟩, .string ⟨t.toArray⟩, .agg #[.int .i64 x0, .int .i64 x1, .int .i64 x2]] w fun e w' => e = .returned (.bool true) ∧ Below w.heap.size w w' := by
  obtain ⟨W1, hW1⟩ : ∃ W1, W1 = w.alloc (.cells #[.int .i64 x0, .int .i64 x1, .int .i64 x2] 38) := ⟨_, rfl⟩
  have hsz0 : w.heap.size + 1 ≤ W1.heap.size := by rw [hW1]; simp
  have hWs : W1.heap.size = w.heap.size + 1 := by rw [hW1]; simp
  have hrow := pair_row2 W1 s t
  rw [hWs] at hrow
  have HL := Lib.hid (Long_any [s, t] _ 2 (by simp) _ _ hrow)
  have h0lt : 0 < w.heap.size := World.block_lt_of_cell? w _ hm
  have HB0 : Hid (Below w.heap.size w W1) := by show Below _ _ _; rw [hW1]; exact (Below.refl _ w).alloc (Nat.le_refl _) _
  have C0 : Hid (∀ w', Below (w.heap.size + 1) W1 w' → w'.cell? ⟨0, 0, none⟩ = some (.int .i64 m) ∧ w'.cell? ⟨w.heap.size, 0, none⟩ = some (.int .i64 x0) ∧ w'.cell? ⟨w.heap.size, 1, none⟩ = some (.int .i64 x1) ∧ w'.cell? ⟨w.heap.size, 2, none⟩ = some (.int .i64 x2)) := by
    intro w' h
    have hb := heap_alloc_new w (.cells #[.int .i64 x0, .int .i64 x1, .int .i64 x2] 38)
    rw [← hW1] at hb
    refine ⟨(h.cell (p := ⟨0, 0, none⟩) (by show 0 < w.heap.size + 1; omega)).trans ((HB0.out.cell (p := ⟨0, 0, none⟩) h0lt).trans hm), (h.cell (p := ⟨w.heap.size, 0, none⟩) (Nat.lt_succ_self _)).trans ?_, (h.cell (p := ⟨w.heap.size, 1, none⟩) (Nat.lt_succ_self _)).trans ?_, (h.cell (p := ⟨w.heap.size, 2, none⟩) (Nat.lt_succ_self _)).trans ?_⟩ <;> (simp only [World.cell?, hb]; rfl)
  have HB : Hid (Below (w.heap.size + 1) W1 (W1.alloc (.cells #[.string ⟨s.toArray⟩, .string ⟨t.toArray⟩] 9))) := (Below.refl _ _).alloc hsz0 _
  obtain ⟨dm, d0, d1, d2⟩ := C0.out _ HB.out
  have HWS := Lib.hid hWs
  clear hrow hm h0lt
  rw [hl] at HL
  have hsl : s.length ≤ 400 := by simp [isLong] at hl; omega
  have htl : t.length ≤ 400 := by simp [isLong] at hl; omega
  clear hl
  have P0 := Lib.hid (fun W => Repeat_any s x0 (by omega) W)
  have P1 := Lib.hid (fun W => Repeat_any s x1 (by omega) W)
  have P2 := Lib.hid (fun W => Repeat_any s (x0 + x1) (by omega) W)
  rw [repC_small s x0 hsl (by omega) (by omega)] at P0
  rw [repC_small s x1 hsl (by omega) (by omega)] at P1
  rw [repC_small s (x0 + x1) hsl (by omega) (by omega), show (x0 + x1).toNat = x0.toNat + x1.toNat from by omega, ← repeatL_add] at P2
  have hcat : ¬ (9223372036854775807 < (Lib.repeatL s x0.toNat).length + (Lib.repeatL s x1.toNat).length) := by
    rw [repeatL_len, repeatL_len]
    have q1 : x0.toNat * s.length ≤ 20 * 400 := Nat.mul_le_mul (by omega) hsl
    have q2 : x1.toNat * s.length ≤ 20 * 400 := Nat.mul_le_mul (by omega) hsl
    omega
  have R1 := Lib.hid (fun W => Reverse_any s (by omega) W)
  have R2 := Lib.hid (fun W => Reverse_any s.reverse (by simp; omega) W)
  rw [List.reverse_reverse] at R2
  have U1 := Lib.hid (fun W => Upper_any s (by omega) W)
  have L1 := Lib.hid (fun W => Lower_any s (by omega) W)
  have L2 := Lib.hid (fun W => Lower_any (upS s) (by simp [upS]; omega) W)
  rw [low_up] at L2
  have F1 := Lib.hid (fun W (h : W.cell? ⟨0, 0, none⟩ = some (.int .i64 m)) => First_any t s x2 m (by omega) (by omega) W h)
  have K1 := Lib.hid (fun W => Last_any t s x2 (by omega) (by omega) W)
  generalize Lib.repeatL s x0.toNat = ra at *
  generalize Lib.repeatL s x1.toNat = rb at *
  generalize s.reverse = r1 at *
  generalize upS s = u1 at *
  generalize lowS s = l1 at *
  simp only at P0 P1 P2
  have hF := first_stands (n := t) (s := s) (fr := x2)
  have hK := last_stands (n := t) (s := s) (tt := x2)
  generalize firstI t s x2 = fi at *
  generalize lastI t s x2 = la at *
  · obtain ⟨hT1, hT2⟩ := hT
    rcases hF with rfl | ⟨k, rfl, hk1, hk2, hk3⟩ <;> rcases hK with rfl | ⟨j, rfl, hj1, hj2, hj3⟩
    · go_enter Try.func8, Try.ntmps8
      go_wp2_with fail
      rw [← hW1]
      clear hW1
      go_wp2_with (first | (go_at_call 9; refine HL.out.mono ?_; rintro e w1 ⟨rfl, rfl⟩) | (go_at_call_of 33 (Value.int IntKind.i64 (x0 + x1)); refine (P2.out _).mono ?_; rintro e w' ⟨rfl, hb⟩; replace HB := Lib.hid (HB.out.trans (hb.mono (Nat.le_trans hsz0 HB.out.size))); obtain ⟨dm, d0, d1, d2⟩ := C0.out _ HB.out; clear hb) | (go_at_call_of 33 (Value.int IntKind.i64 x0); refine (P0.out _).mono ?_; rintro e w' ⟨rfl, hb⟩; replace HB := Lib.hid (HB.out.trans (hb.mono (Nat.le_trans hsz0 HB.out.size))); obtain ⟨dm, d0, d1, d2⟩ := C0.out _ HB.out; clear hb) | (go_at_call_of 33 (Value.int IntKind.i64 x1); refine (P1.out _).mono ?_; rintro e w' ⟨rfl, hb⟩; replace HB := Lib.hid (HB.out.trans (hb.mono (Nat.le_trans hsz0 HB.out.size))); obtain ⟨dm, d0, d1, d2⟩ := C0.out _ HB.out; clear hb) | (go_at_call_of 17 (Value.string ⟨r1.toArray⟩); refine (R2.out _).mono ?_; rintro e w' ⟨rfl, hb⟩; replace HB := Lib.hid (HB.out.trans (hb.mono (Nat.le_trans hsz0 HB.out.size))); obtain ⟨dm, d0, d1, d2⟩ := C0.out _ HB.out; clear hb) | (go_at_call 17; refine (R1.out _).mono ?_; rintro e w' ⟨rfl, hb⟩; replace HB := Lib.hid (HB.out.trans (hb.mono (Nat.le_trans hsz0 HB.out.size))); obtain ⟨dm, d0, d1, d2⟩ := C0.out _ HB.out; clear hb) | (go_at_call 21; refine (U1.out _).mono ?_; rintro e w' ⟨rfl, hb⟩; replace HB := Lib.hid (HB.out.trans (hb.mono (Nat.le_trans hsz0 HB.out.size))); obtain ⟨dm, d0, d1, d2⟩ := C0.out _ HB.out; clear hb) | (go_at_call_of 19 (Value.string ⟨u1.toArray⟩); refine (L2.out _).mono ?_; rintro e w' ⟨rfl, hb⟩; replace HB := Lib.hid (HB.out.trans (hb.mono (Nat.le_trans hsz0 HB.out.size))); obtain ⟨dm, d0, d1, d2⟩ := C0.out _ HB.out; clear hb) | (go_at_call 19; refine (L1.out _).mono ?_; rintro e w' ⟨rfl, hb⟩; replace HB := Lib.hid (HB.out.trans (hb.mono (Nat.le_trans hsz0 HB.out.size))); obtain ⟨dm, d0, d1, d2⟩ := C0.out _ HB.out; clear hb) | (go_at_call 41; refine (F1.out _ (by assumption)).mono ?_; rintro e w' ⟨rfl, rfl⟩) | (go_at_call 43; refine (K1.out _).mono ?_; rintro e w' ⟨rfl, rfl⟩) | (go_at_call 10; refine (awake_any _).mono ?_; rintro e w2 ⟨rfl, hb⟩; replace HB := Lib.hid (HB.out.trans (hb.mono (Nat.le_trans hsz0 HB.out.size))); clear hb))
      go_ret
      exact ⟨rfl, HB0.out.trans (HB.out.mono (by omega))⟩
    · have jf1 : (j : Int) + (t.length : Int) ≤ (s.length : Int) := by omega
      have jf2 : ¬ ((s.length : Int) < (j : Int) + (t.length : Int)) := by omega
      have jf3 : ¬ (x2 < (j : Int)) := by omega
      go_enter Try.func8, Try.ntmps8
      go_wp2_with fail
      rw [← hW1]
      clear hW1
      go_wp2_with (first | (go_at_call 9; refine HL.out.mono ?_; rintro e w1 ⟨rfl, rfl⟩) | (go_at_call_of 33 (Value.int IntKind.i64 (x0 + x1)); refine (P2.out _).mono ?_; rintro e w' ⟨rfl, hb⟩; replace HB := Lib.hid (HB.out.trans (hb.mono (Nat.le_trans hsz0 HB.out.size))); obtain ⟨dm, d0, d1, d2⟩ := C0.out _ HB.out; clear hb) | (go_at_call_of 33 (Value.int IntKind.i64 x0); refine (P0.out _).mono ?_; rintro e w' ⟨rfl, hb⟩; replace HB := Lib.hid (HB.out.trans (hb.mono (Nat.le_trans hsz0 HB.out.size))); obtain ⟨dm, d0, d1, d2⟩ := C0.out _ HB.out; clear hb) | (go_at_call_of 33 (Value.int IntKind.i64 x1); refine (P1.out _).mono ?_; rintro e w' ⟨rfl, hb⟩; replace HB := Lib.hid (HB.out.trans (hb.mono (Nat.le_trans hsz0 HB.out.size))); obtain ⟨dm, d0, d1, d2⟩ := C0.out _ HB.out; clear hb) | (go_at_call_of 17 (Value.string ⟨r1.toArray⟩); refine (R2.out _).mono ?_; rintro e w' ⟨rfl, hb⟩; replace HB := Lib.hid (HB.out.trans (hb.mono (Nat.le_trans hsz0 HB.out.size))); obtain ⟨dm, d0, d1, d2⟩ := C0.out _ HB.out; clear hb) | (go_at_call 17; refine (R1.out _).mono ?_; rintro e w' ⟨rfl, hb⟩; replace HB := Lib.hid (HB.out.trans (hb.mono (Nat.le_trans hsz0 HB.out.size))); obtain ⟨dm, d0, d1, d2⟩ := C0.out _ HB.out; clear hb) | (go_at_call 21; refine (U1.out _).mono ?_; rintro e w' ⟨rfl, hb⟩; replace HB := Lib.hid (HB.out.trans (hb.mono (Nat.le_trans hsz0 HB.out.size))); obtain ⟨dm, d0, d1, d2⟩ := C0.out _ HB.out; clear hb) | (go_at_call_of 19 (Value.string ⟨u1.toArray⟩); refine (L2.out _).mono ?_; rintro e w' ⟨rfl, hb⟩; replace HB := Lib.hid (HB.out.trans (hb.mono (Nat.le_trans hsz0 HB.out.size))); obtain ⟨dm, d0, d1, d2⟩ := C0.out _ HB.out; clear hb) | (go_at_call 19; refine (L1.out _).mono ?_; rintro e w' ⟨rfl, hb⟩; replace HB := Lib.hid (HB.out.trans (hb.mono (Nat.le_trans hsz0 HB.out.size))); obtain ⟨dm, d0, d1, d2⟩ := C0.out _ HB.out; clear hb) | (go_at_call 41; refine (F1.out _ (by assumption)).mono ?_; rintro e w' ⟨rfl, rfl⟩) | (go_at_call 43; refine (K1.out _).mono ?_; rintro e w' ⟨rfl, rfl⟩) | (go_at_call 10; refine (awake_any _).mono ?_; rintro e w2 ⟨rfl, hb⟩; replace HB := Lib.hid (HB.out.trans (hb.mono (Nat.le_trans hsz0 HB.out.size))); clear hb))
      go_ret
      exact ⟨rfl, HB0.out.trans (HB.out.mono (by omega))⟩
    · have kf1 : (k : Int) + (t.length : Int) ≤ (s.length : Int) := by omega
      have kf2 : ¬ ((s.length : Int) < (k : Int) + (t.length : Int)) := by omega
      have kf3 : ¬ ((k : Int) < x2) := by omega
      go_enter Try.func8, Try.ntmps8
      go_wp2_with fail
      rw [← hW1]
      clear hW1
      go_wp2_with (first | (go_at_call 9; refine HL.out.mono ?_; rintro e w1 ⟨rfl, rfl⟩) | (go_at_call_of 33 (Value.int IntKind.i64 (x0 + x1)); refine (P2.out _).mono ?_; rintro e w' ⟨rfl, hb⟩; replace HB := Lib.hid (HB.out.trans (hb.mono (Nat.le_trans hsz0 HB.out.size))); obtain ⟨dm, d0, d1, d2⟩ := C0.out _ HB.out; clear hb) | (go_at_call_of 33 (Value.int IntKind.i64 x0); refine (P0.out _).mono ?_; rintro e w' ⟨rfl, hb⟩; replace HB := Lib.hid (HB.out.trans (hb.mono (Nat.le_trans hsz0 HB.out.size))); obtain ⟨dm, d0, d1, d2⟩ := C0.out _ HB.out; clear hb) | (go_at_call_of 33 (Value.int IntKind.i64 x1); refine (P1.out _).mono ?_; rintro e w' ⟨rfl, hb⟩; replace HB := Lib.hid (HB.out.trans (hb.mono (Nat.le_trans hsz0 HB.out.size))); obtain ⟨dm, d0, d1, d2⟩ := C0.out _ HB.out; clear hb) | (go_at_call_of 17 (Value.string ⟨r1.toArray⟩); refine (R2.out _).mono ?_; rintro e w' ⟨rfl, hb⟩; replace HB := Lib.hid (HB.out.trans (hb.mono (Nat.le_trans hsz0 HB.out.size))); obtain ⟨dm, d0, d1, d2⟩ := C0.out _ HB.out; clear hb) | (go_at_call 17; refine (R1.out _).mono ?_; rintro e w' ⟨rfl, hb⟩; replace HB := Lib.hid (HB.out.trans (hb.mono (Nat.le_trans hsz0 HB.out.size))); obtain ⟨dm, d0, d1, d2⟩ := C0.out _ HB.out; clear hb) | (go_at_call 21; refine (U1.out _).mono ?_; rintro e w' ⟨rfl, hb⟩; replace HB := Lib.hid (HB.out.trans (hb.mono (Nat.le_trans hsz0 HB.out.size))); obtain ⟨dm, d0, d1, d2⟩ := C0.out _ HB.out; clear hb) | (go_at_call_of 19 (Value.string ⟨u1.toArray⟩); refine (L2.out _).mono ?_; rintro e w' ⟨rfl, hb⟩; replace HB := Lib.hid (HB.out.trans (hb.mono (Nat.le_trans hsz0 HB.out.size))); obtain ⟨dm, d0, d1, d2⟩ := C0.out _ HB.out; clear hb) | (go_at_call 19; refine (L1.out _).mono ?_; rintro e w' ⟨rfl, hb⟩; replace HB := Lib.hid (HB.out.trans (hb.mono (Nat.le_trans hsz0 HB.out.size))); obtain ⟨dm, d0, d1, d2⟩ := C0.out _ HB.out; clear hb) | (go_at_call 41; refine (F1.out _ (by assumption)).mono ?_; rintro e w' ⟨rfl, rfl⟩) | (go_at_call 43; refine (K1.out _).mono ?_; rintro e w' ⟨rfl, rfl⟩) | (go_at_call 10; refine (awake_any _).mono ?_; rintro e w2 ⟨rfl, hb⟩; replace HB := Lib.hid (HB.out.trans (hb.mono (Nat.le_trans hsz0 HB.out.size))); clear hb))
      go_ret
      exact ⟨rfl, HB0.out.trans (HB.out.mono (by omega))⟩
    · have kf1 : (k : Int) + (t.length : Int) ≤ (s.length : Int) := by omega
      have kf2 : ¬ ((s.length : Int) < (k : Int) + (t.length : Int)) := by omega
      have kf3 : ¬ ((k : Int) < x2) := by omega
      have jf1 : (j : Int) + (t.length : Int) ≤ (s.length : Int) := by omega
      have jf2 : ¬ ((s.length : Int) < (j : Int) + (t.length : Int)) := by omega
      have jf3 : ¬ (x2 < (j : Int)) := by omega
      go_enter Try.func8, Try.ntmps8
      go_wp2_with fail
      rw [← hW1]
      clear hW1
      go_wp2_with (first | (go_at_call 9; refine HL.out.mono ?_; rintro e w1 ⟨rfl, rfl⟩) | (go_at_call_of 33 (Value.int IntKind.i64 (x0 + x1)); refine (P2.out _).mono ?_; rintro e w' ⟨rfl, hb⟩; replace HB := Lib.hid (HB.out.trans (hb.mono (Nat.le_trans hsz0 HB.out.size))); obtain ⟨dm, d0, d1, d2⟩ := C0.out _ HB.out; clear hb) | (go_at_call_of 33 (Value.int IntKind.i64 x0); refine (P0.out _).mono ?_; rintro e w' ⟨rfl, hb⟩; replace HB := Lib.hid (HB.out.trans (hb.mono (Nat.le_trans hsz0 HB.out.size))); obtain ⟨dm, d0, d1, d2⟩ := C0.out _ HB.out; clear hb) | (go_at_call_of 33 (Value.int IntKind.i64 x1); refine (P1.out _).mono ?_; rintro e w' ⟨rfl, hb⟩; replace HB := Lib.hid (HB.out.trans (hb.mono (Nat.le_trans hsz0 HB.out.size))); obtain ⟨dm, d0, d1, d2⟩ := C0.out _ HB.out; clear hb) | (go_at_call_of 17 (Value.string ⟨r1.toArray⟩); refine (R2.out _).mono ?_; rintro e w' ⟨rfl, hb⟩; replace HB := Lib.hid (HB.out.trans (hb.mono (Nat.le_trans hsz0 HB.out.size))); obtain ⟨dm, d0, d1, d2⟩ := C0.out _ HB.out; clear hb) | (go_at_call 17; refine (R1.out _).mono ?_; rintro e w' ⟨rfl, hb⟩; replace HB := Lib.hid (HB.out.trans (hb.mono (Nat.le_trans hsz0 HB.out.size))); obtain ⟨dm, d0, d1, d2⟩ := C0.out _ HB.out; clear hb) | (go_at_call 21; refine (U1.out _).mono ?_; rintro e w' ⟨rfl, hb⟩; replace HB := Lib.hid (HB.out.trans (hb.mono (Nat.le_trans hsz0 HB.out.size))); obtain ⟨dm, d0, d1, d2⟩ := C0.out _ HB.out; clear hb) | (go_at_call_of 19 (Value.string ⟨u1.toArray⟩); refine (L2.out _).mono ?_; rintro e w' ⟨rfl, hb⟩; replace HB := Lib.hid (HB.out.trans (hb.mono (Nat.le_trans hsz0 HB.out.size))); obtain ⟨dm, d0, d1, d2⟩ := C0.out _ HB.out; clear hb) | (go_at_call 19; refine (L1.out _).mono ?_; rintro e w' ⟨rfl, hb⟩; replace HB := Lib.hid (HB.out.trans (hb.mono (Nat.le_trans hsz0 HB.out.size))); obtain ⟨dm, d0, d1, d2⟩ := C0.out _ HB.out; clear hb) | (go_at_call 41; refine (F1.out _ (by assumption)).mono ?_; rintro e w' ⟨rfl, rfl⟩) | (go_at_call 43; refine (K1.out _).mono ?_; rintro e w' ⟨rfl, rfl⟩) | (go_at_call 10; refine (awake_any _).mono ?_; rintro e w2 ⟨rfl, hb⟩; replace HB := Lib.hid (HB.out.trans (hb.mono (Nat.le_trans hsz0 HB.out.size))); clear hb))
      go_ret
      exact ⟨rfl, HB0.out.trans (HB.out.mono (by omega))⟩
end Go.Proofs.Ytkjeccndbdgghaa.textBack
