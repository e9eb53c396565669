/- For all texts, 'TextForms' returns true: Reverse, Lower, Upper, Title, Trim, Unescaped, Unescape, Detail and White are those of the reference. No condition. -/
import Derived.Test.YtkjeccndbdgghaaRows
import Derived.Test.YtkjeccndbdgghaaAwake1
import Derived.Test.YtkjeccndbdgghaaRev
import Derived.Test.YtkjeccndbdgghaaTrim3
import Derived.Test.YtkjeccndbdgghaaUnescd
import Derived.Test.YtkjeccndbdgghaaArgArr
namespace Go.Proofs.Ytkjeccndbdgghaa.textForms
open Go.ChangeShapes Go.WideShapes Go.ChangeAt Go.RowKit
open Go.ChangeMaps (open_string shut_string)
set_option linter.unusedVariables false

theorem own : ownKnob Try.prog.godebug = none := by kernel_rfl
theorem laidOut : laidOutB Try.prog = true := by kernel_rfl

set_option maxRecDepth 100000 in
set_option maxHeartbeats 3200000 in
theorem walk (s t : Bs) (x0 x1 : Bool) (hs : s.length ≤ 9223372036854775807) (ht : t.length ≤ 9223372036854775807) (w : World) :
    Calls Try.prog 5 #[.string ⟨s.toArray⟩, .string ⟨t.toArray⟩, .agg #[.bool x0, .bool x1]] w fun e w' => e = .returned (.bool true) ∧ Below w.heap.size w w' := by
  have hrow := pair_row2 (w.alloc (.cells #[.bool x0, .bool x1] 31)) s t
  rw [show (w.alloc (.cells #[.bool x0, .bool x1] 31)).heap.size = w.heap.size + 1 from by simp] at hrow
  have hlong := Long_any [s, t] _ 2 (by simp) _ _ hrow
  have hb0 : Below w.heap.size w ((w.alloc (.cells #[.bool x0, .bool x1] 31)).alloc (.cells #[.string ⟨s.toArray⟩, .string ⟨t.toArray⟩] 9)) := ((Below.refl _ w).alloc (Nat.le_refl _) _).alloc (by simp) _
  have HL := Lib.hid hlong
  have HB := Lib.hid hb0
  clear hlong hb0 hrow
  by_cases h1 : isLong [s, t] = true
  · rw [h1] at HL
    clear h1
    go_enter Try.func5, Try.ntmps5
    go_wp2_with (first | (go_at_call 9; refine HL.out.mono ?_; rintro e w1 ⟨rfl, rfl⟩) | (go_at_call 10; refine (awake_any _).mono ?_; rintro e w2 ⟨rfl, hb⟩))
    go_ret
    exact ⟨rfl, HB.out.trans (hb.mono HB.out.size)⟩
  · have h1f : isLong [s, t] = false := by simpa using h1
    rw [h1f] at HL
    have hsl : s.length ≤ 400 := by simp [isLong] at h1f; omega
    have htl : t.length ≤ 400 := by simp [isLong] at h1f; omega
    clear h1 h1f
    have E1 := Lib.hid (fun W => Unescape_any s (by omega) W)
    have E2 := Lib.hid (fun W => rUnescape_any s (by omega) W)
    have R1 := Lib.hid (fun W => Reverse_any s (by omega) W)
    have R2 := Lib.hid (fun W => rReverse_any s (by omega) W)
    have L1 := Lib.hid (fun W => Lower_any s (by omega) W)
    have L2 := Lib.hid (fun W => rLower_any s (by omega) W)
    have U1 := Lib.hid (fun W => Upper_any s (by omega) W)
    have U2 := Lib.hid (fun W => rUpper_any s (by omega) W)
    have T1 := Lib.hid (fun W => Title_any s (by omega) W)
    have T2 := Lib.hid (fun W => rTitle_any s (by omega) W)
    have M1 := Lib.hid (fun W => Trim_any s t x0 x1 (by omega) (by omega) W)
    have M2 := Lib.hid (fun W => rTrim_any s t x0 x1 (by omega) (by omega) W)
    have N1 := Lib.hid (fun W => Unescaped_any s (by omega) W)
    have N2 := Lib.hid (fun W => rUnescaped_any s (by omega) W)
    have D1 := Lib.hid (fun W => Detail_any s (by omega) W)
    have D2 := Lib.hid (fun W => rDetail_any s (by omega) W)
    generalize unesc s = q at *
    obtain ⟨qa, qb⟩ := q
    simp only at E1 E2
    generalize s.reverse = r1 at *
    generalize lowS s = r2 at *
    generalize upS s = r3 at *
    generalize titleS s = r4 at *
    generalize trimC s t x0 x1 = r6 at *
    generalize unescAll s = r7 at *
    generalize s.take 40 = r8 at *
    obtain ⟨n1, hn1⟩ : ∃ n1, n1 = w.heap.size + 1 := ⟨_, rfl⟩
    obtain ⟨W1, hW1⟩ : ∃ W1, W1 = w.alloc (.cells #[.bool x0, .bool x1] 31) := ⟨_, rfl⟩
    have c0 : ∀ w', Below n1 W1 w' → w'.cell? ⟨w.heap.size, 0, none⟩ = some (.bool x0) ∧ w'.cell? ⟨w.heap.size, 1, none⟩ = some (.bool x1) := by
      intro w' h
      have hb := heap_alloc_new w (.cells #[.bool x0, .bool x1] 31)
      refine ⟨(h.cell (p := ⟨w.heap.size, 0, none⟩) (by show w.heap.size < n1; omega)).trans ?_, (h.cell (p := ⟨w.heap.size, 1, none⟩) (by show w.heap.size < n1; omega)).trans ?_⟩ <;> (simp only [hW1, World.cell?, hb]; rfl)
    have hsz1 : n1 ≤ W1.heap.size := by rw [hW1]; simp; omega
    have HB0 : Hid (Below w.heap.size w W1) := by show Below _ _ _; rw [hW1]; exact (Below.refl _ w).alloc (Nat.le_refl _) _
    have hb1 : Below n1 W1 (W1.alloc (.cells #[.string ⟨s.toArray⟩, .string ⟨t.toArray⟩] 9)) := (Below.refl _ _).alloc hsz1 _
    have C0 := Lib.hid c0
    replace HB := Lib.hid hb1
    have hWs : W1.heap.size = w.heap.size + 1 := by rw [hW1]; simp
    have HN : Hid (w.heap.size ≤ n1) := by show _ ≤ _; omega
    rw [← hW1] at HL
    clear c0 hb1
    go_enter Try.func5, Try.ntmps5
    go_wp2_with fail
    rw [← hW1]
    have HS1 := Lib.hid hWs
    clear hW1 hWs hn1
    go_wp2_with (first | (go_at_call 9; refine HL.out.mono ?_; rintro e w1 ⟨rfl, rfl⟩) | (go_at_call 15; refine (E1.out _).mono ?_; rintro e w' ⟨rfl, hb⟩; replace HB := Lib.hid (HB.out.trans (hb.mono (Nat.le_trans hsz1 HB.out.size))); clear hb) | (go_at_call 16; refine (E2.out _).mono ?_; rintro e w' ⟨rfl, hb⟩; replace HB := Lib.hid (HB.out.trans (hb.mono (Nat.le_trans hsz1 HB.out.size))); clear hb) | (go_at_call 17; refine (R1.out _).mono ?_; rintro e w' ⟨rfl, hb⟩; replace HB := Lib.hid (HB.out.trans (hb.mono (Nat.le_trans hsz1 HB.out.size))); clear hb) | (go_at_call 18; refine (R2.out _).mono ?_; rintro e w' ⟨rfl, hb⟩; replace HB := Lib.hid (HB.out.trans (hb.mono (Nat.le_trans hsz1 HB.out.size))); clear hb) | (go_at_call 19; refine (L1.out _).mono ?_; rintro e w' ⟨rfl, hb⟩; replace HB := Lib.hid (HB.out.trans (hb.mono (Nat.le_trans hsz1 HB.out.size))); clear hb) | (go_at_call 20; refine (L2.out _).mono ?_; rintro e w' ⟨rfl, hb⟩; replace HB := Lib.hid (HB.out.trans (hb.mono (Nat.le_trans hsz1 HB.out.size))); clear hb) | (go_at_call 21; refine (U1.out _).mono ?_; rintro e w' ⟨rfl, hb⟩; replace HB := Lib.hid (HB.out.trans (hb.mono (Nat.le_trans hsz1 HB.out.size))); clear hb) | (go_at_call 22; refine (U2.out _).mono ?_; rintro e w' ⟨rfl, hb⟩; replace HB := Lib.hid (HB.out.trans (hb.mono (Nat.le_trans hsz1 HB.out.size))); clear hb) | (go_at_call 23; refine (T1.out _).mono ?_; rintro e w' ⟨rfl, hb⟩; replace HB := Lib.hid (HB.out.trans (hb.mono (Nat.le_trans hsz1 HB.out.size))); clear hb) | (go_at_call 24; refine (T2.out _).mono ?_; rintro e w' ⟨rfl, hb⟩; replace HB := Lib.hid (HB.out.trans (hb.mono (Nat.le_trans hsz1 HB.out.size))); clear hb))
    go_loopw [11] (fun v wr => ∃ k : Nat, k ≤ s.length ∧ v = .int .i64 k ∧ Hid (Below n1 W1 wr)) (fun v _ => s.length - (intOf v).toNat)
    case atStart => exact ⟨0, Nat.zero_le _, rfl, HB⟩
    case round =>
      clear HB
      obtain ⟨k, hk, rfl, HB⟩ := hrel
      by_cases hlt : k < s.length
      · have h255 := byte_lt s[k]
        have h000 : (0 : Int) ≤ (s[k].toNat : Int) := by omega
        have V1 := Lib.hid (fun W => white_any _ h000 h255 W)
        have V2 := Lib.hid (fun W => rwhite_any _ h000 h255 W)
        go_wp2_with fail
        go_quiet (first | (go_at_call 25; exact Calls.quiet_of_same ((V1.out _).mono fun e w' h => ⟨h.1, h.2.symm⟩)) | (go_at_call 26; exact Calls.quiet_of_same ((V2.out _).mono fun e w' h => ⟨h.1, h.2.symm⟩)))
        go_wp2_with fail
        go_roundw
        case rel => exact ⟨k + 1, by omega, by go_num, Lib.hid (below_drewN HB.out _)⟩
        case measure => simp [intOf]; omega
      · obtain ⟨d0, d1⟩ := C0.out _ HB.out
        obtain ⟨S0, hS0⟩ : ∃ S0 : World → Prop, S0 = fun w' => Below n1 W1 w' := ⟨_, rfl⟩
        have k0 : S0 wr := by rw [hS0]; exact HB.out
        have k1 : ∀ W, S0 W → S0 W.drew := by intro W hW; rw [hS0] at hW ⊢; exact hW.drew
        have k2 : ∀ W W', S0 W → Below W.heap.size W W' → S0 W' ∧ W'.cell? ⟨w.heap.size, 0, none⟩ = some (.bool x0) ∧ W'.cell? ⟨w.heap.size, 1, none⟩ = some (.bool x1) := by
          intro W W' hW hb
          have h2 : Below n1 W1 W' := by rw [hS0] at hW; exact hW.trans (hb.mono (Nat.le_trans hsz1 hW.size))
          exact ⟨by rw [hS0]; exact h2, (C0.out _ h2).1, (C0.out _ h2).2⟩
        have k3 : Hid (∀ W, S0 W → Below n1 W1 W) := by intro W hW; rw [hS0] at hW; exact hW
        clear hS0
        go_wp2_with fail
        go_region_held3 (fun w' => S0 w' ∧ w'.cell? ⟨w.heap.size, 0, none⟩ = some (.bool x0) ∧ w'.cell? ⟨w.heap.size, 1, none⟩ = some (.bool x1)) (first | go_keep | (exact k2 _ _ (by go_split_ands; assumption) hbx) | (exact k2 _ _ (k1 _ (by go_split_ands; assumption)) hbx) | (go_split_ands; exact ⟨k1 _ (by assumption), by assumption, by assumption⟩)) (first | (go_at_call 27; refine (M1.out _).mono ?_; rintro e w2 ⟨rfl, rfl⟩) | (go_at_call 28; refine (M2.out _).mono ?_; rintro e w2 ⟨rfl, rfl⟩) | (go_at_call 31; refine (D1.out _).mono ?_; rintro e w2 ⟨rfl, rfl⟩) | (go_at_call 32; refine (D2.out _).mono ?_; rintro e w2 ⟨rfl, rfl⟩) | (go_at_call 29; refine (N1.out _).mono ?_; rintro e w2 ⟨rfl, hbx⟩) | (go_at_call 30; refine (N2.out _).mono ?_; rintro e w2 ⟨rfl, hbx⟩) | (go_at_call 10; refine (awake_any _).mono ?_; rintro e w2 ⟨rfl, hbx⟩))
        all_goals (go_split_ands; go_wp2_with fail; go_ret; exact ⟨rfl, HB0.out.trans ((k3.out _ (by assumption)).mono HN.out)⟩)

theorem walkB (a0 a1 : ByteArray) (x0 x1 : Bool) (w0 : a0.size ≤ maxLen) (w1 : a1.size ≤ maxLen) (w : World) :
    Calls Try.prog 5 #[.string a0, .string a1, .agg #[.bool x0, .bool x1]] w fun e w' => e = .returned (.bool true) ∧ Below w.heap.size w w' := by
  cases a0 with
  | mk d0 => cases a1 with
    | mk d1 => cases d0 with
      | mk l0 => cases d1 with
        | mk l1 => exact walk l0 l1 x0 x1 (by simpa [ByteArray.size, maxLen] using w0) (by simpa [ByteArray.size, maxLen] using w1) w

set_option maxRecDepth 100000 in
theorem lifted (os : Os) (started : os.Started) (H : Type) (enc : TypeId × Value → H) :
    ReturnsInHanded {} Try.checked os 5 .any (Rows.textFormsSpec.pre6 enc Try.prog Try.f5 Rows.textFormsRow.domain false) (Rows.textFormsSpec.post enc Try.prog Try.f5 false true false false) := by
  refine returnsInHanded_of_change (C := Try.checked) own started (by kernel_rfl) Try.func5
    (ChangeSpec.witness6 (enc := enc) (C := Try.checked) false ⟨#[], #[.string ByteArray.empty, .string ByteArray.empty, .agg #[.bool false, .bool false]], []⟩ 8 (by kernel_rfl) (by kernel_rfl) (by kernel_rfl) (by kernel_rfl)) ?_
  intro W base args ds gs before hval0 hW hcnd _
  have hval : ∀ (j : Nat) t v, Try.f5.params[j]? = some t → args[j]? = some v → Value.okWide Try.prog W .any base t v := hval0
  have hW' := hW
  obtain ⟨p, q, hA0, hV, rfl, hfz, hnd⟩ := hW
  have hA : DataW.TrodAll enc Try.prog W 0 (fun _ => true) true Try.f5.params.toList args.toList ds p := hA0
  rw [Try.params5] at hA hval
  obtain ⟨v0, vs0, d0, ds0, p0, q0, hargs, rfl, rfl, h0, r0⟩ := trodAll_cons hA
  obtain ⟨v1, vs1, d1, ds1, p1, q1, rfl, rfl, rfl, h1, r1⟩ := trodAll_cons r0
  obtain ⟨v2, vs2, d2, ds2, p2, q2, rfl, rfl, rfl, h2, r2⟩ := trodAll_cons r1
  obtain ⟨rfl, rfl, rfl⟩ := trodAll_nil r2
  obtain rfl : args = #[v0, v1, v2] := by cases args; simp_all
  obtain ⟨rfl, rfl⟩ := trodVars_none hV
  obtain ⟨a0, rfl, rfl, rfl, w0⟩ := open_string Try.underlying9 (hval 0 9 v0 rfl rfl) h0
  obtain ⟨a1, rfl, rfl, rfl, w1⟩ := open_string Try.underlying9 (hval 1 9 v1 rfl rfl) h1
  have h2k := h2
  obtain ⟨x0, x1, rfl, rfl⟩ := open_bools2 Try.underlying31 Try.underlying4 (by kernel_rfl) (by kernel_rfl) (hval 2 31 v2 rfl rfl) h2
  clear hA0 hval0
  simp only [List.append_nil, List.nil_append] at hW'
  refine (walkB a0 a1 x0 x1 w0 w1 W).mono fun e W' ⟨he, hb⟩ => ?_
  subst he
  exact ⟨_, rfl, _, _, _, [], [] ++ ([] ++ ([] ++ [])), [], hW', trodAll_cons_mk (shut_bool Try.underlying4 _) trodAll_mk0,
    trodAll_cons_mk (shut_string Try.underlying9 w0) (trodAll_cons_mk (shut_string Try.underlying9 w1) (trodAll_cons_mk (Below.trod laidOut (by kernel_rfl) (of_decide_eq_true (by kernel_rfl)) h2k hb (fun x hx => by cases hx)) trodAll_mk0)), rfl, hb.frame _, fun h => by cases h⟩

theorem over : Rows.textFormsRow.holds Try.pinned (OpenSpec.ofChange Rows.textFormsSpec) :=
  OpenClaim.holds_of_wide 5 Try.f5 rfl rfl rfl rfl rfl rfl rfl ⟨rfl, rfl, rfl, rfl, rfl⟩ rfl rfl rfl rfl rfl (by kernel_rfl) Try.func5 (by kernel_rfl)
    (of_decide_eq_true (by kernel_rfl)) (by unfold Func.isWrapper; first | (rw [if_pos (by decide +kernel)]; kernel_rfl) | (rw [if_neg (by decide +kernel)]; exact ⟨rfl, rfl⟩))
    (fun os started H enc _ => lifted os started H enc)

theorem proved : Rows.TextFormsSaid :=
  over
#print axioms proved
end Go.Proofs.Ytkjeccndbdgghaa.textForms
