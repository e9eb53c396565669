/- For all texts and numbers, 'TextBack' returns true: P1.2, P1.3 and P1.5. No condition. -/
import Derived.Test.YtkjeccndbdgghaaRows
import Derived.Test.YtkjeccndbdgghaaAwake1
import Derived.Test.YtkjeccndbdgghaaBackP
import Derived.HandedShaped
import Derived.Deep.RegionWith
import Derived.Test.YtkjeccndbdgghaaArgArr
import Derived.Test.YtkjeccndbdgghaaTextBack1
import Derived.Test.YtkjeccndbdgghaaTextBack2
import Derived.Test.YtkjeccndbdgghaaTextBack3
namespace Go.Proofs.Ytkjeccndbdgghaa.textBack
open Go.ChangeShapes Go.WideShapes Go.ChangeAt Go.RowKit
open Go.ChangeMaps (open_string shut_string)
set_option linter.unusedVariables false

theorem own : ownKnob Try.prog.godebug = none := by kernel_rfl
theorem laidOut : laidOutB Try.prog = true := by kernel_rfl

attribute [local go_sem] ba_append in
set_option maxRecDepth 100000 in
set_option maxHeartbeats 6400000 in
theorem walk (s t : Bs) (x0 x1 x2 : Int) (hs : s.length ≤ 9223372036854775807) (ht : t.length ≤ 9223372036854775807) (w : World) (m : Int) (hm : w.cell? ⟨0, 0, none⟩ = some (.int .i64 m)) :
    Calls Try.prog 8 #[.string ⟨s.toArray⟩, .string ⟨t.toArray⟩, .agg #[.int .i64 x0, .int .i64 x1, .int .i64 x2]] w fun e w' => e = .returned (.bool true) ∧ Below w.heap.size w w' := by
  obtain ⟨W1, hW1⟩ : ∃ W1, W1 = w.alloc (.cells #[.int .i64 x0, .int .i64 x1, .int .i64 x2] 38) := ⟨_, rfl⟩
  have hsz0 : w.heap.size + 1 ≤ W1.heap.size := by rw [hW1]; simp
  have hWs : W1.heap.size = w.heap.size + 1 := by rw [hW1]; simp
  have hrow := pair_row2 W1 s t
  rw [hWs] at hrow
  have HL := Lib.hid (Long_any [s, t] _ 2 (by simp) _ _ hrow)
  have h0lt : 0 < w.heap.size := World.block_lt_of_cell? w _ hm
  have HB0 : Hid (Below w.heap.size w W1) := by show Below _ _ _; rw [hW1]; exact (Below.refl _ w).alloc (Nat.le_refl _) _
  have C0 : Hid (∀ w', Below (w.heap.size + 1) W1 w' → w'.cell? ⟨0, 0, none⟩ = some (.int .i64 m) ∧ w'.cell? ⟨w.heap.size, 0, none⟩ = some (.int .i64 x0) ∧ w'.cell? ⟨w.heap.size, 1, none⟩ = some (.int .i64 x1) ∧ w'.cell? ⟨w.heap.size, 2, none⟩ = some (.int .i64 x2)) := by
    intro w' h
    have hb := heap_alloc_new w (.cells #[.int .i64 x0, .int .i64 x1, .int .i64 x2] 38)
    rw [← hW1] at hb
    refine ⟨(h.cell (p := ⟨0, 0, none⟩) (by show 0 < w.heap.size + 1; omega)).trans ((HB0.out.cell (p := ⟨0, 0, none⟩) h0lt).trans hm), (h.cell (p := ⟨w.heap.size, 0, none⟩) (Nat.lt_succ_self _)).trans ?_, (h.cell (p := ⟨w.heap.size, 1, none⟩) (Nat.lt_succ_self _)).trans ?_, (h.cell (p := ⟨w.heap.size, 2, none⟩) (Nat.lt_succ_self _)).trans ?_⟩ <;> (simp only [World.cell?, hb]; rfl)
  have HB : Hid (Below (w.heap.size + 1) W1 (W1.alloc (.cells #[.string ⟨s.toArray⟩, .string ⟨t.toArray⟩] 9))) := (Below.refl _ _).alloc hsz0 _
  obtain ⟨dm, d0, d1, d2⟩ := C0.out _ HB.out
  have HWS := Lib.hid hWs
  have Hm := Lib.hid hm
  clear hrow hm h0lt
  by_cases h1 : isLong [s, t] = true
  · rw [h1] at HL
    clear h1
    go_enter Try.func8, Try.ntmps8
    go_wp2_with fail
    rw [← hW1]
    clear hW1
    go_wp2_with (first | (go_at_call 9; refine HL.out.mono ?_; rintro e w1 ⟨rfl, rfl⟩) | (go_at_call 10; refine (awake_any _).mono ?_; rintro e w2 ⟨rfl, hb⟩; replace HB := Lib.hid (HB.out.trans (hb.mono (Nat.le_trans hsz0 HB.out.size))); clear hb))
    go_ret
    exact ⟨rfl, HB0.out.trans (HB.out.mono (by omega))⟩
  have h1f : isLong [s, t] = false := by simpa using h1
  have HF := Lib.hid h1f
  rw [h1f] at HL
  clear h1 h1f
  by_cases a0 : x0 < 0
  · go_enter Try.func8, Try.ntmps8
    go_wp2_with fail
    rw [← hW1]
    clear hW1
    go_wp2_with (first | (go_at_call 9; refine HL.out.mono ?_; rintro e w1 ⟨rfl, rfl⟩) | (go_at_call 10; refine (awake_any _).mono ?_; rintro e w2 ⟨rfl, hb⟩; replace HB := Lib.hid (HB.out.trans (hb.mono (Nat.le_trans hsz0 HB.out.size))); clear hb))
    go_ret
    exact ⟨rfl, HB0.out.trans (HB.out.mono (by omega))⟩
  by_cases a1 : 20 < x0
  · go_enter Try.func8, Try.ntmps8
    go_wp2_with fail
    rw [← hW1]
    clear hW1
    go_wp2_with (first | (go_at_call 9; refine HL.out.mono ?_; rintro e w1 ⟨rfl, rfl⟩) | (go_at_call 10; refine (awake_any _).mono ?_; rintro e w2 ⟨rfl, hb⟩; replace HB := Lib.hid (HB.out.trans (hb.mono (Nat.le_trans hsz0 HB.out.size))); clear hb))
    go_ret
    exact ⟨rfl, HB0.out.trans (HB.out.mono (by omega))⟩
  by_cases a2 : x1 < 0
  · go_enter Try.func8, Try.ntmps8
    go_wp2_with fail
    rw [← hW1]
    clear hW1
    go_wp2_with (first | (go_at_call 9; refine HL.out.mono ?_; rintro e w1 ⟨rfl, rfl⟩) | (go_at_call 10; refine (awake_any _).mono ?_; rintro e w2 ⟨rfl, hb⟩; replace HB := Lib.hid (HB.out.trans (hb.mono (Nat.le_trans hsz0 HB.out.size))); clear hb))
    go_ret
    exact ⟨rfl, HB0.out.trans (HB.out.mono (by omega))⟩
  by_cases a3 : 20 < x1
  · go_enter Try.func8, Try.ntmps8
    go_wp2_with fail
    rw [← hW1]
    clear hW1
    go_wp2_with (first | (go_at_call 9; refine HL.out.mono ?_; rintro e w1 ⟨rfl, rfl⟩) | (go_at_call 10; refine (awake_any _).mono ?_; rintro e w2 ⟨rfl, hb⟩; replace HB := Lib.hid (HB.out.trans (hb.mono (Nat.le_trans hsz0 HB.out.size))); clear hb))
    go_ret
    exact ⟨rfl, HB0.out.trans (HB.out.mono (by omega))⟩
  have hm : w.cell? ⟨0, 0, none⟩ = some (.int .i64 m) := Hm.out
  rcases (by omega : (x1 < x0) ∨ (x0 ≤ x1 ∧ (s.length : Int) ≤ x1) ∨ (x0 ≤ x1 ∧ x1 < (s.length : Int))) with hT | hT | hT
  · exact walk1 s t x0 x1 x2 hs ht w m hm HF.out a0 a1 a2 a3 hT
  · exact walk2 s t x0 x1 x2 hs ht w m hm HF.out a0 a1 a2 a3 hT
  · exact walk3 s t x0 x1 x2 hs ht w m hm HF.out a0 a1 a2 a3 hT

theorem walkB (a0 a1 : ByteArray) (x0 x1 x2 : Int) (w0 : a0.size ≤ maxLen) (w1 : a1.size ≤ maxLen) (w : World) (m : Int) (hm : w.cell? ⟨0, 0, none⟩ = some (.int .i64 m)) :
    Calls Try.prog 8 #[.string a0, .string a1, .agg #[.int .i64 x0, .int .i64 x1, .int .i64 x2]] w fun e w' => e = .returned (.bool true) ∧ Below w.heap.size w w' := by
  cases a0 with
  | mk d0 => cases a1 with
    | mk d1 => cases d0 with
      | mk l0 => cases d1 with
        | mk l1 => exact walk l0 l1 x0 x1 x2 (by simpa [ByteArray.size, maxLen] using w0) (by simpa [ByteArray.size, maxLen] using w1) w m hm

set_option maxRecDepth 100000 in
theorem lifted (os : Os) (started : os.Started) (H : Type) (enc : TypeId × Value → H) :
    ReturnsInHanded {} Try.checked os 8 .any (Rows.textBackSpec.pre6 enc Try.prog Try.f8 Rows.textBackRow.domain false) (Rows.textBackSpec.post enc Try.prog Try.f8 false true false false) := by
  refine returnsInHanded_of_change_shaped (C := Try.checked) own started (by kernel_rfl) Try.func8
    (ChangeSpec.witness6 (enc := enc) (C := Try.checked) false ⟨#[], #[.string ByteArray.empty, .string ByteArray.empty, .agg #[.int .i64 0, .int .i64 0, .int .i64 0]], []⟩ 8 (by kernel_rfl) (by kernel_rfl) (by kernel_rfl) (by kernel_rfl)) ?_
  intro W base args ds gs before hval0 hW hcnd _ hsh _
  obtain ⟨mx, hmx⟩ := Try.laysM143.s1_3 W hsh
  have hval : ∀ (j : Nat) t v, Try.f8.params[j]? = some t → args[j]? = some v → Value.okWide Try.prog W .any base t v := hval0
  have hW' := hW
  obtain ⟨p, q, hA0, hV, rfl, hfz, hnd⟩ := hW
  have hA : DataW.TrodAll enc Try.prog W 0 (fun _ => true) true Try.f8.params.toList args.toList ds p := hA0
  rw [Try.params8] at hA hval
  obtain ⟨v0, vs0, d0, ds0, p0, q0, hargs, rfl, rfl, h0, r0⟩ := trodAll_cons hA
  obtain ⟨v1, vs1, d1, ds1, p1, q1, rfl, rfl, rfl, h1, r1⟩ := trodAll_cons r0
  obtain ⟨v2, vs2, d2, ds2, p2, q2, rfl, rfl, rfl, h2, r2⟩ := trodAll_cons r1
  obtain ⟨rfl, rfl, rfl⟩ := trodAll_nil r2
  obtain rfl : args = #[v0, v1, v2] := by cases args; simp_all
  obtain ⟨rfl, rfl⟩ := trodVars_none hV
  obtain ⟨a0, rfl, rfl, rfl, w0⟩ := open_string Try.underlying9 (hval 0 9 v0 rfl rfl) h0
  obtain ⟨a1, rfl, rfl, rfl, w1⟩ := open_string Try.underlying9 (hval 1 9 v1 rfl rfl) h1
  have h2k := h2
  obtain ⟨x0, x1, x2, rfl, rfl, _, _, _⟩ := open_ints3 Try.underlying38 Try.underlying3 (by kernel_rfl) (by kernel_rfl) (hval 2 38 v2 rfl rfl) h2
  clear hA0 hval0
  simp only [List.append_nil, List.nil_append] at hW'
  refine (walkB a0 a1 x0 x1 x2 w0 w1 W mx hmx).mono fun e W' ⟨he, hb⟩ => ?_
  subst he
  exact ⟨_, rfl, _, _, _, [], [] ++ ([] ++ ([] ++ [])), [], hW', trodAll_cons_mk (shut_bool Try.underlying4 _) trodAll_mk0,
    trodAll_cons_mk (shut_string Try.underlying9 w0) (trodAll_cons_mk (shut_string Try.underlying9 w1) (trodAll_cons_mk (Below.trod laidOut (by kernel_rfl) (of_decide_eq_true (by kernel_rfl)) h2k hb (fun x hx => by cases hx)) trodAll_mk0)), rfl, hb.frame _, fun h => by cases h⟩

theorem over : Rows.textBackRow.holds Try.pinned (OpenSpec.ofChange Rows.textBackSpec) :=
  OpenClaim.holds_of_wide 8 Try.f8 rfl rfl rfl rfl rfl rfl rfl ⟨rfl, rfl, rfl, rfl, rfl⟩ rfl rfl rfl rfl rfl (by kernel_rfl) Try.func8 (by kernel_rfl)
    (of_decide_eq_true (by kernel_rfl)) (by unfold Func.isWrapper; first | (rw [if_pos (by decide +kernel)]; kernel_rfl) | (rw [if_neg (by decide +kernel)]; exact ⟨rfl, rfl⟩))
    (fun os started H enc _ => lifted os started H enc)

theorem proved : Rows.TextBackSaid :=
  over
#print axioms proved
end Go.Proofs.Ytkjeccndbdgghaa.textBack
