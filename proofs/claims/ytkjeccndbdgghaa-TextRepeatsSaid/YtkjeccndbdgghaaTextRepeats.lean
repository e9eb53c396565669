/- For all texts and numbers, 'TextRepeats' returns true: 'Repeat' and 'Replace' are those of the reference. No condition. -/
import Derived.Test.YtkjeccndbdgghaaRows
import Derived.Test.YtkjeccndbdgghaaAwake1
import Derived.Test.YtkjeccndbdgghaaRepeat
import Derived.Test.YtkjeccndbdgghaaArgArr
namespace Go.Proofs.Ytkjeccndbdgghaa.textRepeats
open Go.ChangeShapes Go.WideShapes Go.ChangeAt Go.RowKit
open Go.ChangeMaps (open_string shut_string)
set_option linter.unusedVariables false

theorem own : ownKnob Try.prog.godebug = none := by kernel_rfl
theorem laidOut : laidOutB Try.prog = true := by kernel_rfl

set_option maxRecDepth 100000 in
set_option maxHeartbeats 1600000 in
theorem walk (s t : Bs) (x0 x1 x2 : Int) (hs : s.length ≤ 9223372036854775807) (ht : t.length ≤ 9223372036854775807) (w : World) :
    Calls Try.prog 6 #[.string ⟨s.toArray⟩, .string ⟨t.toArray⟩, .agg #[.int .i64 x0, .int .i64 x1, .int .i64 x2]] w fun e w' => e = .returned (.bool true) ∧ Below w.heap.size w w' := by
  have hrow := pair_row2 (w.alloc (.cells #[.int .i64 x0, .int .i64 x1, .int .i64 x2] 38)) s t
  rw [show (w.alloc (.cells #[.int .i64 x0, .int .i64 x1, .int .i64 x2] 38)).heap.size = w.heap.size + 1 from by simp] at hrow
  have hlong := Long_any [s, t] _ 2 (by simp) _ _ hrow
  have hb0 : Below w.heap.size w ((w.alloc (.cells #[.int .i64 x0, .int .i64 x1, .int .i64 x2] 38)).alloc (.cells #[.string ⟨s.toArray⟩, .string ⟨t.toArray⟩] 9)) := ((Below.refl _ w).alloc (Nat.le_refl _) _).alloc (by simp) _
  have HL := Lib.hid hlong
  have HB := Lib.hid hb0
  clear hlong hb0 hrow
  by_cases h1 : isLong [s, t] = true
  · rw [h1] at HL
    clear h1
    go_enter Try.func6, Try.ntmps6
    go_wp2_with (first | (go_at_call 9; refine HL.out.mono ?_; rintro e w1 ⟨rfl, rfl⟩) | (go_at_call 10; refine (awake_any _).mono ?_; rintro e w2 ⟨rfl, hb⟩))
    go_ret
    exact ⟨rfl, HB.out.trans (hb.mono HB.out.size)⟩
  · have h1f : isLong [s, t] = false := by simpa using h1
    rw [h1f] at HL
    have hsl : s.length ≤ 400 := by simp [isLong] at h1f; omega
    have htl : t.length ≤ 400 := by simp [isLong] at h1f; omega
    clear h1 h1f
    have R1 := Lib.hid (fun W => Repeat_any s x0 (by omega) W)
    have R2 := Lib.hid (fun W => (rRepeat_any s x0 (by omega) W).mono (R' := fun e w' => e = .returned (.tuple #[.string ⟨(repC s x0).1.toArray⟩, .int .i64 (repC s x0).2]) ∧ Below W.heap.size W w') fun e w' h => ⟨h.1, h.2 ▸ Below.refl _ _⟩)
    have P1 := Lib.hid (fun W => (Replace_any s t x1 x2 (by omega) (by omega) W).mono (R' := fun e w' => e = .returned (.tuple #[.string ⟨(lim (replC s t x1 x2)).1.toArray⟩, .int .i64 (lim (replC s t x1 x2)).2]) ∧ Below W.heap.size W w') fun e w' ⟨h, m, hm⟩ => ⟨h, hm ▸ below_drewN (Below.refl _ _) _⟩)
    have P2 := Lib.hid (fun W => (rReplace_any s t x1 x2 (by omega) (by omega) W).mono (R' := fun e w' => e = .returned (.tuple #[.string ⟨(lim (replC s t x1 x2)).1.toArray⟩, .int .i64 (lim (replC s t x1 x2)).2]) ∧ Below W.heap.size W w') fun e w' ⟨h, m, hm⟩ => ⟨h, hm ▸ below_drewN (Below.refl _ _) _⟩)
    generalize repC s x0 = q at *
    generalize lim (replC s t x1 x2) = q2 at *
    obtain ⟨qa, qb⟩ := q
    obtain ⟨qc, qd⟩ := q2
    simp only at R1 R2 P1 P2
    have hcx : ∃ o : Nat, o = w.heap.size := ⟨_, rfl⟩
    have c0 : ∀ w', Below (w.heap.size + 1) (w.alloc (.cells #[.int .i64 x0, .int .i64 x1, .int .i64 x2] 38)) w' → w'.cell? ⟨w.heap.size, 0, none⟩ = some (.int .i64 x0) ∧ w'.cell? ⟨w.heap.size, 1, none⟩ = some (.int .i64 x1) ∧ w'.cell? ⟨w.heap.size, 2, none⟩ = some (.int .i64 x2) := by
      intro w' h
      have hb := heap_alloc_new w (.cells #[.int .i64 x0, .int .i64 x1, .int .i64 x2] 38)
      refine ⟨(h.cell (p := ⟨w.heap.size, 0, none⟩) (Nat.lt_succ_self _)).trans ?_, (h.cell (p := ⟨w.heap.size, 1, none⟩) (Nat.lt_succ_self _)).trans ?_, (h.cell (p := ⟨w.heap.size, 2, none⟩) (Nat.lt_succ_self _)).trans ?_⟩ <;> (simp only [World.cell?, hb]; rfl)
    go_enter Try.func6, Try.ntmps6
    have C0 := Lib.hid c0
    have hsz0 : w.heap.size + 1 ≤ (w.alloc (.cells #[.int .i64 x0, .int .i64 x1, .int .i64 x2] 38)).heap.size := by simp
    have HB0 := Lib.hid (((Below.refl w.heap.size w).alloc (Nat.le_refl _) (.cells #[.int .i64 x0, .int .i64 x1, .int .i64 x2] 38)))
    have hb1 : Below (w.heap.size + 1) (w.alloc (.cells #[.int .i64 x0, .int .i64 x1, .int .i64 x2] 38)) ((w.alloc (.cells #[.int .i64 x0, .int .i64 x1, .int .i64 x2] 38)).alloc (.cells #[.string ⟨s.toArray⟩, .string ⟨t.toArray⟩] 9)) := (Below.refl _ _).alloc (by simp) _
    obtain ⟨d0, d1, d2⟩ := c0 _ hb1
    replace HB := Lib.hid hb1
    clear c0 hb1 hcx
    go_wp2_with (first | (go_at_call 9; refine HL.out.mono ?_; rintro e w1 ⟨rfl, rfl⟩) | (go_at_call 33; refine (R1.out _).mono ?_; rintro e w' ⟨rfl, hb⟩; replace HB := Lib.hid (HB.out.trans (hb.mono (Nat.le_trans hsz0 HB.out.size))); obtain ⟨d0, d1, d2⟩ := C0.out _ HB.out; clear hb) | (go_at_call 34; refine (R2.out _).mono ?_; rintro e w' ⟨rfl, hb⟩; replace HB := Lib.hid (HB.out.trans (hb.mono (Nat.le_trans hsz0 HB.out.size))); obtain ⟨d0, d1, d2⟩ := C0.out _ HB.out; clear hb) | (go_at_call 35; refine (P1.out _).mono ?_; rintro e w' ⟨rfl, hb⟩; replace HB := Lib.hid (HB.out.trans (hb.mono (Nat.le_trans hsz0 HB.out.size))); obtain ⟨d0, d1, d2⟩ := C0.out _ HB.out; clear hb) | (go_at_call 36; refine (P2.out _).mono ?_; rintro e w' ⟨rfl, hb⟩; replace HB := Lib.hid (HB.out.trans (hb.mono (Nat.le_trans hsz0 HB.out.size))); obtain ⟨d0, d1, d2⟩ := C0.out _ HB.out; clear hb) | (go_at_call 10; refine (awake_any _).mono ?_; rintro e w' ⟨rfl, hb⟩; replace HB := Lib.hid (HB.out.trans (hb.mono (Nat.le_trans hsz0 HB.out.size))); clear hb))
    go_ret
    exact ⟨rfl, HB0.out.trans (HB.out.mono (by omega))⟩

theorem walkB (a0 a1 : ByteArray) (x0 x1 x2 : Int) (w0 : a0.size ≤ maxLen) (w1 : a1.size ≤ maxLen) (w : World) :
    Calls Try.prog 6 #[.string a0, .string a1, .agg #[.int .i64 x0, .int .i64 x1, .int .i64 x2]] w fun e w' => e = .returned (.bool true) ∧ Below w.heap.size w w' := by
  cases a0 with
  | mk d0 => cases a1 with
    | mk d1 => cases d0 with
      | mk l0 => cases d1 with
        | mk l1 => exact walk l0 l1 x0 x1 x2 (by simpa [ByteArray.size, maxLen] using w0) (by simpa [ByteArray.size, maxLen] using w1) w

set_option maxRecDepth 100000 in
theorem lifted (os : Os) (started : os.Started) (H : Type) (enc : TypeId × Value → H) :
    ReturnsInHanded {} Try.checked os 6 .any (Rows.textRepeatsSpec.pre6 enc Try.prog Try.f6 Rows.textRepeatsRow.domain false) (Rows.textRepeatsSpec.post enc Try.prog Try.f6 false true false false) := by
  refine returnsInHanded_of_change (C := Try.checked) own started (by kernel_rfl) Try.func6
    (ChangeSpec.witness6 (enc := enc) (C := Try.checked) false ⟨#[], #[.string ByteArray.empty, .string ByteArray.empty, .agg #[.int .i64 0, .int .i64 0, .int .i64 0]], []⟩ 8 (by kernel_rfl) (by kernel_rfl) (by kernel_rfl) (by kernel_rfl)) ?_
  intro W base args ds gs before hval0 hW hcnd _
  have hval : ∀ (j : Nat) t v, Try.f6.params[j]? = some t → args[j]? = some v → Value.okWide Try.prog W .any base t v := hval0
  have hW' := hW
  obtain ⟨p, q, hA0, hV, rfl, hfz, hnd⟩ := hW
  have hA : DataW.TrodAll enc Try.prog W 0 (fun _ => true) true Try.f6.params.toList args.toList ds p := hA0
  rw [Try.params6] at hA hval
  obtain ⟨v0, vs0, d0, ds0, p0, q0, hargs, rfl, rfl, h0, r0⟩ := trodAll_cons hA
  obtain ⟨v1, vs1, d1, ds1, p1, q1, rfl, rfl, rfl, h1, r1⟩ := trodAll_cons r0
  obtain ⟨v2, vs2, d2, ds2, p2, q2, rfl, rfl, rfl, h2, r2⟩ := trodAll_cons r1
  obtain ⟨rfl, rfl, rfl⟩ := trodAll_nil r2
  obtain rfl : args = #[v0, v1, v2] := by cases args; simp_all
  obtain ⟨rfl, rfl⟩ := trodVars_none hV
  obtain ⟨a0, rfl, rfl, rfl, w0⟩ := open_string Try.underlying9 (hval 0 9 v0 rfl rfl) h0
  obtain ⟨a1, rfl, rfl, rfl, w1⟩ := open_string Try.underlying9 (hval 1 9 v1 rfl rfl) h1
  have h2k := h2
  obtain ⟨x0, x1, x2, rfl, rfl, _, _, _⟩ := open_ints3 Try.underlying38 Try.underlying3 (by kernel_rfl) (by kernel_rfl) (hval 2 38 v2 rfl rfl) h2
  clear hA0 hval0
  simp only [List.append_nil, List.nil_append] at hW'
  refine (walkB a0 a1 x0 x1 x2 w0 w1 W).mono fun e W' ⟨he, hb⟩ => ?_
  subst he
  exact ⟨_, rfl, _, _, _, [], [] ++ ([] ++ ([] ++ [])), [], hW', trodAll_cons_mk (shut_bool Try.underlying4 _) trodAll_mk0,
    trodAll_cons_mk (shut_string Try.underlying9 w0) (trodAll_cons_mk (shut_string Try.underlying9 w1) (trodAll_cons_mk (Below.trod laidOut (by kernel_rfl) (of_decide_eq_true (by kernel_rfl)) h2k hb (fun x hx => by cases hx)) trodAll_mk0)), rfl, hb.frame _, fun h => by cases h⟩

theorem over : Rows.textRepeatsRow.holds Try.pinned (OpenSpec.ofChange Rows.textRepeatsSpec) :=
  OpenClaim.holds_of_wide 6 Try.f6 rfl rfl rfl rfl rfl rfl rfl ⟨rfl, rfl, rfl, rfl, rfl⟩ rfl rfl rfl rfl rfl (by kernel_rfl) Try.func6 (by kernel_rfl)
    (of_decide_eq_true (by kernel_rfl)) (by unfold Func.isWrapper; first | (rw [if_pos (by decide +kernel)]; kernel_rfl) | (rw [if_neg (by decide +kernel)]; exact ⟨rfl, rfl⟩))
    (fun os started H enc _ => lifted os started H enc)

theorem proved : Rows.TextRepeatsSaid :=
  over
#print axioms proved
end Go.Proofs.Ytkjeccndbdgghaa.textRepeats
