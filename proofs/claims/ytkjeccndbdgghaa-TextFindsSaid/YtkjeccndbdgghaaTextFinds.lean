/- For all texts and numbers, 'TextFinds' returns true: Compare, Range, First, Last and Count are those of the reference. No condition. -/
import Derived.Test.YtkjeccndbdgghaaRows
import Derived.Test.YtkjeccndbdgghaaAwake1
import Derived.Test.YtkjeccndbdgghaaFinds4
import Derived.HandedShaped
import Derived.Deep.RegionHeld3
import Derived.Test.YtkjeccndbdgghaaArgArr
namespace Go.Proofs.Ytkjeccndbdgghaa.textFinds
open Go.ChangeShapes Go.WideShapes Go.ChangeAt Go.RowKit
open Go.ChangeMaps (open_string shut_string)
set_option linter.unusedVariables false

theorem own : ownKnob Try.prog.godebug = none := by kernel_rfl
theorem laidOut : laidOutB Try.prog = true := by kernel_rfl

set_option maxRecDepth 100000 in
set_option maxHeartbeats 1600000 in
theorem walk (s t : Bs) (x0 x1 : Int) (hs : s.length ≤ 9223372036854775807) (ht : t.length ≤ 9223372036854775807) (w : World) (m : Int) (hm : w.cell? ⟨0, 0, none⟩ = some (.int .i64 m)) :
    Calls Try.prog 7 #[.string ⟨s.toArray⟩, .string ⟨t.toArray⟩, .agg #[.int .i64 x0, .int .i64 x1]] w fun e w' => e = .returned (.bool true) ∧ Below w.heap.size w w' := by
  have hrow := pair_row2 (w.alloc (.cells #[.int .i64 x0, .int .i64 x1] 42)) s t
  rw [show (w.alloc (.cells #[.int .i64 x0, .int .i64 x1] 42)).heap.size = w.heap.size + 1 from by simp] at hrow
  have hlong := Long_any [s, t] _ 2 (by simp) _ _ hrow
  have hb0 : Below w.heap.size w ((w.alloc (.cells #[.int .i64 x0, .int .i64 x1] 42)).alloc (.cells #[.string ⟨s.toArray⟩, .string ⟨t.toArray⟩] 9)) := ((Below.refl _ w).alloc (Nat.le_refl _) _).alloc (by simp) _
  have HL := Lib.hid hlong
  have HB := Lib.hid hb0
  clear hlong hb0 hrow
  by_cases h1 : isLong [s, t] = true
  · rw [h1] at HL
    clear h1
    go_enter Try.func7, Try.ntmps7
    go_wp2_with (first | (go_at_call 9; refine HL.out.mono ?_; rintro e w1 ⟨rfl, rfl⟩) | (go_at_call 10; refine (awake_any _).mono ?_; rintro e w2 ⟨rfl, hb⟩))
    go_ret
    exact ⟨rfl, HB.out.trans (hb.mono HB.out.size)⟩
  · have h1f : isLong [s, t] = false := by simpa using h1
    rw [h1f] at HL
    have hsl : s.length ≤ 400 := by simp [isLong] at h1f; omega
    have htl : t.length ≤ 400 := by simp [isLong] at h1f; omega
    clear h1 h1f
    have hb0' : Below w.heap.size w (w.alloc (.cells #[.int .i64 x0, .int .i64 x1] 42)) := (Below.refl _ w).alloc (Nat.le_refl _) _
    have h0lt : 0 < w.heap.size := World.block_lt_of_cell? w _ hm
    have hW1 : ∀ w', Below (w.heap.size + 1) (w.alloc (.cells #[.int .i64 x0, .int .i64 x1] 42)) w' → w'.cell? ⟨0, 0, none⟩ = some (.int .i64 m) ∧ w'.cell? ⟨w.heap.size, 0, none⟩ = some (.int .i64 x0) ∧ w'.cell? ⟨w.heap.size, 1, none⟩ = some (.int .i64 x1) := by
      intro w' h
      have hb := heap_alloc_new w (.cells #[.int .i64 x0, .int .i64 x1] 42)
      refine ⟨(h.cell (p := ⟨0, 0, none⟩) (by show 0 < w.heap.size + 1; omega)).trans ((hb0'.cell (p := ⟨0, 0, none⟩) h0lt).trans hm), (h.cell (p := ⟨w.heap.size, 0, none⟩) (Nat.lt_succ_self _)).trans ?_, (h.cell (p := ⟨w.heap.size, 1, none⟩) (Nat.lt_succ_self _)).trans ?_⟩ <;> (simp only [World.cell?, hb]; rfl)
    have HW1 := Lib.hid hW1
    have hb1 : Below (w.heap.size + 1) (w.alloc (.cells #[.int .i64 x0, .int .i64 x1] 42)) ((w.alloc (.cells #[.int .i64 x0, .int .i64 x1] 42)).alloc (.cells #[.string ⟨s.toArray⟩, .string ⟨t.toArray⟩] 9)) := (Below.refl _ _).alloc (by simp) _
    have C1 := Lib.hid (fun W => Compare_any s t W)
    have C2 := Lib.hid (fun W => rCompare_any s t (by omega) W)
    have G1 := Lib.hid (fun W => Range_any s x0 x1 (by omega) W)
    have G2 := Lib.hid (fun W => rRange_any s x0 x1 (by omega) W)
    have F1 := Lib.hid (fun W (h : W.cell? ⟨0, 0, none⟩ = some (.int .i64 m)) => First_any t s x0 m (by omega) (by omega) W h)
    have F2 := Lib.hid (fun W => rFirst_any t s x0 (by omega) (by omega) W)
    have L1 := Lib.hid (fun W => Last_any t s x1 (by omega) (by omega) W)
    have L2 := Lib.hid (fun W => rLast_any t s x1 (by omega) (by omega) W)
    have N1 := Lib.hid (fun W (h : W.cell? ⟨0, 0, none⟩ = some (.int .i64 m)) => Count_any t s m (by omega) (by omega) W h)
    have N2 := Lib.hid (fun W => rCount_any t s (by omega) (by omega) W)
    generalize Lib.compareBytes s t = r1 at *
    generalize rangeC s x0 x1 = r2 at *
    generalize firstI t s x0 = r3 at *
    generalize lastI t s x1 = r4 at *
    generalize ((countC t s : Nat) : Int) = r5 at *
    have HBB := Lib.hid (hb0'.trans (hb1.mono (by omega)))
    obtain ⟨d0, d1, d2⟩ := hW1 _ hb1
    have g0 : 0 < ((w.alloc (.cells #[.int .i64 x0, .int .i64 x1] 42)).alloc (.cells #[.string ⟨s.toArray⟩, .string ⟨t.toArray⟩] 9)).heap.size := by simp
    have g1 : w.heap.size < ((w.alloc (.cells #[.int .i64 x0, .int .i64 x1] 42)).alloc (.cells #[.string ⟨s.toArray⟩, .string ⟨t.toArray⟩] 9)).heap.size := by simp; omega
    clear hW1 hb1 hb0'
    go_enter Try.func7, Try.ntmps7
    go_wp2_with (first | (go_at_call 9; refine HL.out.mono ?_; rintro e w1 ⟨rfl, rfl⟩))
    generalize (w.alloc (.cells #[.int .i64 x0, .int .i64 x1] 42)).alloc (.cells #[.string ⟨s.toArray⟩, .string ⟨t.toArray⟩] 9) = W0 at *
    go_region_held3 (fun w' => w'.cell? ⟨0, 0, none⟩ = some (.int .i64 m) ∧ w'.cell? ⟨w.heap.size, 0, none⟩ = some (.int .i64 x0) ∧ w'.cell? ⟨w.heap.size, 1, none⟩ = some (.int .i64 x1)) (first | go_keep | (go_split_ands; exact ⟨(hbx.cell g0).trans d0, (hbx.cell g1).trans d1, (hbx.cell g1).trans d2⟩)) (first | (go_at_call 37; refine (C1.out _).mono ?_; rintro e w' ⟨rfl, rfl⟩) | (go_at_call 38; refine (C2.out _).mono ?_; rintro e w' ⟨rfl, rfl⟩) | (go_at_call 39; refine (G1.out _).mono ?_; rintro e w' ⟨rfl, rfl⟩) | (go_at_call 40; refine (G2.out _).mono ?_; rintro e w' ⟨rfl, rfl⟩) | (go_at_call 41; refine (F1.out _ (by assumption)).mono ?_; rintro e w' ⟨rfl, rfl⟩) | (go_at_call 42; refine (F2.out _).mono ?_; rintro e w' ⟨rfl, rfl⟩) | (go_at_call 43; refine (L1.out _).mono ?_; rintro e w' ⟨rfl, rfl⟩) | (go_at_call 44; refine (L2.out _).mono ?_; rintro e w' ⟨rfl, rfl⟩) | (go_at_call 45; refine (N1.out _ (by assumption)).mono ?_; rintro e w' ⟨rfl, rfl⟩) | (go_at_call 46; refine (N2.out _).mono ?_; rintro e w' ⟨rfl, rfl⟩) | (go_at_call 10; refine (awake_any _).mono ?_; rintro e w9 ⟨rfl, hbx⟩))
    have hbx' : Below W0.heap.size W0 w9 := (Below.refl W0.heap.size W0).drew.trans hbx
    go_wp2_with fail
    go_ret
    exact ⟨rfl, HBB.out.trans (hbx'.mono HBB.out.size)⟩

theorem walkB (a0 a1 : ByteArray) (x0 x1 : Int) (w0 : a0.size ≤ maxLen) (w1 : a1.size ≤ maxLen) (w : World) (m : Int) (hm : w.cell? ⟨0, 0, none⟩ = some (.int .i64 m)) :
    Calls Try.prog 7 #[.string a0, .string a1, .agg #[.int .i64 x0, .int .i64 x1]] w fun e w' => e = .returned (.bool true) ∧ Below w.heap.size w w' := by
  cases a0 with
  | mk d0 => cases a1 with
    | mk d1 => cases d0 with
      | mk l0 => cases d1 with
        | mk l1 => exact walk l0 l1 x0 x1 (by simpa [ByteArray.size, maxLen] using w0) (by simpa [ByteArray.size, maxLen] using w1) w m hm

set_option maxRecDepth 100000 in
theorem lifted (os : Os) (started : os.Started) (H : Type) (enc : TypeId × Value → H) :
    ReturnsInHanded {} Try.checked os 7 .any (Rows.textFindsSpec.pre6 enc Try.prog Try.f7 Rows.textFindsRow.domain false) (Rows.textFindsSpec.post enc Try.prog Try.f7 false true false false) := by
  refine returnsInHanded_of_change_shaped (C := Try.checked) own started (by kernel_rfl) Try.func7
    (ChangeSpec.witness6 (enc := enc) (C := Try.checked) false ⟨#[], #[.string ByteArray.empty, .string ByteArray.empty, .agg #[.int .i64 0, .int .i64 0]], []⟩ 8 (by kernel_rfl) (by kernel_rfl) (by kernel_rfl) (by kernel_rfl)) ?_
  intro W base args ds gs before hval0 hW hcnd _ hsh _
  obtain ⟨mx, hmx⟩ := Try.laysM143.s1_3 W hsh
  have hval : ∀ (j : Nat) t v, Try.f7.params[j]? = some t → args[j]? = some v → Value.okWide Try.prog W .any base t v := hval0
  have hW' := hW
  obtain ⟨p, q, hA0, hV, rfl, hfz, hnd⟩ := hW
  have hA : DataW.TrodAll enc Try.prog W 0 (fun _ => true) true Try.f7.params.toList args.toList ds p := hA0
  rw [Try.params7] at hA hval
  obtain ⟨v0, vs0, d0, ds0, p0, q0, hargs, rfl, rfl, h0, r0⟩ := trodAll_cons hA
  obtain ⟨v1, vs1, d1, ds1, p1, q1, rfl, rfl, rfl, h1, r1⟩ := trodAll_cons r0
  obtain ⟨v2, vs2, d2, ds2, p2, q2, rfl, rfl, rfl, h2, r2⟩ := trodAll_cons r1
  obtain ⟨rfl, rfl, rfl⟩ := trodAll_nil r2
  obtain rfl : args = #[v0, v1, v2] := by cases args; simp_all
  obtain ⟨rfl, rfl⟩ := trodVars_none hV
  obtain ⟨a0, rfl, rfl, rfl, w0⟩ := open_string Try.underlying9 (hval 0 9 v0 rfl rfl) h0
  obtain ⟨a1, rfl, rfl, rfl, w1⟩ := open_string Try.underlying9 (hval 1 9 v1 rfl rfl) h1
  have h2k := h2
  obtain ⟨x0, x1, rfl, rfl, _, _⟩ := open_ints2 Try.underlying42 Try.underlying3 (by kernel_rfl) (by kernel_rfl) (hval 2 42 v2 rfl rfl) h2
  clear hA0 hval0
  simp only [List.append_nil, List.nil_append] at hW'
  refine (walkB a0 a1 x0 x1 w0 w1 W mx hmx).mono fun e W' ⟨he, hb⟩ => ?_
  subst he
  exact ⟨_, rfl, _, _, _, [], [] ++ ([] ++ ([] ++ [])), [], hW', trodAll_cons_mk (shut_bool Try.underlying4 _) trodAll_mk0,
    trodAll_cons_mk (shut_string Try.underlying9 w0) (trodAll_cons_mk (shut_string Try.underlying9 w1) (trodAll_cons_mk (Below.trod laidOut (by kernel_rfl) (of_decide_eq_true (by kernel_rfl)) h2k hb (fun x hx => by cases hx)) trodAll_mk0)), rfl, hb.frame _, fun h => by cases h⟩

theorem over : Rows.textFindsRow.holds Try.pinned (OpenSpec.ofChange Rows.textFindsSpec) :=
  OpenClaim.holds_of_wide 7 Try.f7 rfl rfl rfl rfl rfl rfl rfl ⟨rfl, rfl, rfl, rfl, rfl⟩ rfl rfl rfl rfl rfl (by kernel_rfl) Try.func7 (by kernel_rfl)
    (of_decide_eq_true (by kernel_rfl)) (by unfold Func.isWrapper; first | (rw [if_pos (by decide +kernel)]; kernel_rfl) | (rw [if_neg (by decide +kernel)]; exact ⟨rfl, rfl⟩))
    (fun os started H enc _ => lifted os started H enc)

theorem proved : Rows.TextFindsSaid :=
  over
#print axioms proved
end Go.Proofs.Ytkjeccndbdgghaa.textFinds
