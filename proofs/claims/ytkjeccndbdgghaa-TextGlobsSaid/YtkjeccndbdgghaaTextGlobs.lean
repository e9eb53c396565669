/- For every pattern and all texts, 'TextGlobs' returns true. No condition. -/
import Derived.Test.YtkjeccndbdgghaaRows
import Derived.Test.YtkjeccndbdgghaaAwake1
import Derived.Test.YtkjeccndbdgghaaGlobLaw2
import Derived.ProofKit
import Derived.OpenShut
import Derived.ShutString
import Derived.Carry
namespace Go.Proofs.Ytkjeccndbdgghaa.textGlobs
open Go.ChangeShapes Go.WideShapes Go.ChangeAt Go.RowKit
open Go.ChangeMaps (open_string shut_string)
set_option linter.unusedVariables false

theorem own : ownKnob Try.prog.godebug = none := by kernel_rfl

theorem ba_append (a b : Bs) : (⟨a.toArray⟩ : ByteArray) ++ ⟨b.toArray⟩ = ⟨(a ++ b).toArray⟩ := by
  apply ByteArray.ext
  simp
theorem glob_m (p s : Bs) (fold : Bool) (hp : p.length ≤ 1000000) (hs : s.length ≤ 1000000) (w : World) :
    Calls Try.prog 13 #[.string ⟨p.toArray⟩, .string ⟨s.toArray⟩, .bool fold] w fun e w' => e = .returned (.bool (matchP fold p s)) ∧ Below w.heap.size w w' := by
  rw [← globC_match]; exact Glob_any p s fold hp hs w
theorem rglob_m (p s : Bs) (fold : Bool) (hp : p.length ≤ 1000000) (hs : s.length ≤ 1000000) (w : World) :
    Calls Try.prog 14 #[.string ⟨p.toArray⟩, .string ⟨s.toArray⟩, .bool fold] w fun e w' => e = .returned (.bool (matchP fold p s)) ∧ Below w.heap.size w w' := by
  rw [← gl_match]; exact rGlob_any p s fold hp hs w

theorem last_cases (p : Bs) : p = [] ∨ (((p.length : Int) == 0) = false ∧ (0 : Int) ≤ (p.length : Int) - 1 ∧ ((p.length : Int) - 1).toNat = p.length - 1 ∧ ∃ h : p.length - 1 < p.length, ((p[p.length - 1].toNat : Int) == 92) = true ∧ ((p[p.length - 1].toNat : Int) != 92) = false) ∨
    (((p.length : Int) == 0) = false ∧ (0 : Int) ≤ (p.length : Int) - 1 ∧ ((p.length : Int) - 1).toNat = p.length - 1 ∧ ∃ h : p.length - 1 < p.length, ((p[p.length - 1].toNat : Int) == 92) = false ∧ ((p[p.length - 1].toNat : Int) != 92) = true ∧ Hid (Whole p)) := by
  cases p with
  | nil => exact .inl rfl
  | cons c r =>
    right
    generalize hq : c :: r = q
    have hne : 0 < q.length := by rw [← hq]; simp
    have h1 : ((q.length : Int) == 0) = false := by rw [beq_eq_false_iff_ne]; omega
    have h : q.length - 1 < q.length := by omega
    by_cases he : q[q.length - 1] = 92
    · exact .inl ⟨h1, by omega, by omega, h, by rw [he]; rfl, by rw [he]; rfl⟩
    · have h2 : ((q[q.length - 1].toNat : Int) == 92) = false := by rw [beq_eq_false_iff_ne]; intro h3; exact he (byte_inj (by show _ = 92; omega))
      refine .inr ⟨h1, by omega, by omega, h, h2, by rw [bne, h2]; rfl, fun d hd hd2 => he ?_⟩
      rw [List.getLast?_eq_getElem?, List.getElem?_eq_getElem h] at hd
      cases hd; exact hd2

attribute [local go_sem] ba_append in
set_option maxRecDepth 100000 in
set_option maxHeartbeats 1600000 in
theorem walk (p s more : Bs) (hp : p.length ≤ 9223372036854775807) (hs : s.length ≤ 9223372036854775807) (hm : more.length ≤ 9223372036854775807) (w : World) :
    Calls Try.prog 4 #[.string ⟨p.toArray⟩, .string ⟨s.toArray⟩, .string ⟨more.toArray⟩] w fun e w' => e = .returned (.bool true) ∧ Below w.heap.size w w' := by
  by_cases hl : p.length ≤ 60 ∧ s.length ≤ 100 ∧ more.length ≤ 100
  · obtain ⟨l1, l2, l3⟩ := hl
    have hb0 : Below w.heap.size w w := Below.refl _ _
    have HB := Lib.hid hb0
    clear hb0
    have HG0 := Lib.hid (fun W => glob_m p s false (by omega) (by omega) W)
    have HG1 := Lib.hid (fun W => glob_m p s true (by omega) (by omega) W)
    have HR0 := Lib.hid (fun W => rglob_m p s false (by omega) (by omega) W)
    have HR1 := Lib.hid (fun W => rglob_m p s true (by omega) (by omega) W)
    have HM := Lib.hid (fun (hw : Whole p) (h : matchP false p s = true) => match_more more hw h)
    generalize matchP false p s = m0 at *
    generalize matchP true p s = m1 at *
    go_enter Try.func4, Try.ntmps4
    go_wp2_with (first | (go_at_call_of 13 (Value.bool true); refine (HG1.out _).mono ?_; rintro e w' ⟨rfl, hb⟩; replace HB := Lib.hid (HB.out.trans (hb.mono HB.out.size)); clear hb) | (go_at_call 13; refine (HG0.out _).mono ?_; rintro e w' ⟨rfl, hb⟩; replace HB := Lib.hid (HB.out.trans (hb.mono HB.out.size)); clear hb) | (go_at_call_of 14 (Value.bool true); refine (HR1.out _).mono ?_; rintro e w' ⟨rfl, hb⟩; replace HB := Lib.hid (HB.out.trans (hb.mono HB.out.size)); clear hb) | (go_at_call 14; refine (HR0.out _).mono ?_; rintro e w' ⟨rfl, hb⟩; replace HB := Lib.hid (HB.out.trans (hb.mono HB.out.size)); clear hb))
    have HE0 := Lib.hid (match_esc s)
    have HS := Lib.hid (match_star false s)
    clear HG0 HG1 HR0 HR1
    go_loopw [8, 9] (fun v8 v9 wr => ∃ i : Nat, i ≤ s.length ∧ v9 = .int .i64 i ∧ v8 = .string ⟨(esc (s.take i)).toArray⟩ ∧ Hid (Below w.heap.size w wr)) (fun _ v9 _ => s.length - (intOf v9).toNat)
    case atStart => exact ⟨0, Nat.zero_le _, rfl, rfl, HB⟩
    case round =>
      clear HB
      obtain ⟨i, hi, rfl, rfl, HB⟩ := hrel
      by_cases hlt : i < s.length
      · have hel := esc_len (s.take i)
        have HT : Hid (esc (s.take i) ++ [92, s[i]] = esc (s.take (i + 1))) := by show _ = _; rw [List.take_succ_eq_append_getElem hlt, esc_snoc]
        have hdr : (s.drop i).take 1 = [s[i]] := by rw [List.drop_eq_getElem_cons hlt, List.take_succ_cons, List.take_zero]
        have hi1 : i + 1 - i = 1 := by omega
        clear HS HE0 HM
        go_wp2_with fail
        go_roundw
        case rel => exact ⟨i + 1, by omega, by go_num, by rw [← HT.out], HB⟩
        case measure => simp [intOf]; omega
      · obtain rfl : i = s.length := by omega
        rw [List.take_length]
        have HE1 : Hid (matchP false (esc s) s = true) := by show _ = _; rw [HE0.out]; simp
        rcases Decidable.em (s = more) with rfl | hsm
        · have HE2 := HE1
          clear HE0 HS
          rcases last_cases p with rfl | ⟨k1, k2, k3, k4, k5, k6⟩ | ⟨k1, k2, k3, k4, k5, k6, HW⟩
          · have HW : Hid (Whole []) := fun d hd => by cases hd
            cases m0 <;>
              (go_wp2_with (first | (go_at_call 13; refine (glob_m _ _ _ (by first | omega | (simp [esc_len]; omega) | (simp; done)) (by first | omega | (simp; omega)) _).mono ?_; rintro e w' ⟨rfl, hb⟩; (try simp only [HE1.out, HE2.out, match_star]); (try rw [HM.out HW.out (by trivial)]); replace HB := Lib.hid (HB.out.trans (hb.mono HB.out.size)); clear hb) | (go_at_call 10; refine (awake_any _).mono ?_; rintro e w' ⟨rfl, hb⟩; replace HB := Lib.hid (HB.out.trans (hb.mono HB.out.size)); clear hb))
               go_ret
               exact ⟨rfl, HB.out⟩)
          · cases m0 <;>
              (go_wp2_with (first | (go_at_call 13; refine (glob_m _ _ _ (by first | omega | (simp [esc_len]; omega) | (simp; done)) (by first | omega | (simp; omega)) _).mono ?_; rintro e w' ⟨rfl, hb⟩; (try simp only [HE1.out, HE2.out, match_star]); (try rw [HM.out HW.out (by trivial)]); replace HB := Lib.hid (HB.out.trans (hb.mono HB.out.size)); clear hb) | (go_at_call 10; refine (awake_any _).mono ?_; rintro e w' ⟨rfl, hb⟩; replace HB := Lib.hid (HB.out.trans (hb.mono HB.out.size)); clear hb))
               go_ret
               exact ⟨rfl, HB.out⟩)
          · cases m0 <;>
              (go_wp2_with (first | (go_at_call 13; refine (glob_m _ _ _ (by first | omega | (simp [esc_len]; omega) | (simp; done)) (by first | omega | (simp; omega)) _).mono ?_; rintro e w' ⟨rfl, hb⟩; (try simp only [HE1.out, HE2.out, match_star]); (try rw [HM.out HW.out (by trivial)]); replace HB := Lib.hid (HB.out.trans (hb.mono HB.out.size)); clear hb) | (go_at_call 10; refine (awake_any _).mono ?_; rintro e w' ⟨rfl, hb⟩; replace HB := Lib.hid (HB.out.trans (hb.mono HB.out.size)); clear hb))
               go_ret
               exact ⟨rfl, HB.out⟩)
        · have HE2 : Hid (matchP false (esc s) more = false) := by show _ = _; rw [HE0.out]; simpa using hsm
          have t1 : (s == more) = false := by simpa using hsm
          clear HE0 HS
          rcases last_cases p with rfl | ⟨k1, k2, k3, k4, k5, k6⟩ | ⟨k1, k2, k3, k4, k5, k6, HW⟩
          · have HW : Hid (Whole []) := fun d hd => by cases hd
            cases m0 <;>
              (go_wp2_with (first | (go_at_call 13; refine (glob_m _ _ _ (by first | omega | (simp [esc_len]; omega) | (simp; done)) (by first | omega | (simp; omega)) _).mono ?_; rintro e w' ⟨rfl, hb⟩; (try simp only [HE1.out, HE2.out, match_star]); (try rw [HM.out HW.out (by trivial)]); replace HB := Lib.hid (HB.out.trans (hb.mono HB.out.size)); clear hb) | (go_at_call 10; refine (awake_any _).mono ?_; rintro e w' ⟨rfl, hb⟩; replace HB := Lib.hid (HB.out.trans (hb.mono HB.out.size)); clear hb))
               go_ret
               exact ⟨rfl, HB.out⟩)
          · cases m0 <;>
              (go_wp2_with (first | (go_at_call 13; refine (glob_m _ _ _ (by first | omega | (simp [esc_len]; omega) | (simp; done)) (by first | omega | (simp; omega)) _).mono ?_; rintro e w' ⟨rfl, hb⟩; (try simp only [HE1.out, HE2.out, match_star]); (try rw [HM.out HW.out (by trivial)]); replace HB := Lib.hid (HB.out.trans (hb.mono HB.out.size)); clear hb) | (go_at_call 10; refine (awake_any _).mono ?_; rintro e w' ⟨rfl, hb⟩; replace HB := Lib.hid (HB.out.trans (hb.mono HB.out.size)); clear hb))
               go_ret
               exact ⟨rfl, HB.out⟩)
          · cases m0 <;>
              (go_wp2_with (first | (go_at_call 13; refine (glob_m _ _ _ (by first | omega | (simp [esc_len]; omega) | (simp; done)) (by first | omega | (simp; omega)) _).mono ?_; rintro e w' ⟨rfl, hb⟩; (try simp only [HE1.out, HE2.out, match_star]); (try rw [HM.out HW.out (by trivial)]); replace HB := Lib.hid (HB.out.trans (hb.mono HB.out.size)); clear hb) | (go_at_call 10; refine (awake_any _).mono ?_; rintro e w' ⟨rfl, hb⟩; replace HB := Lib.hid (HB.out.trans (hb.mono HB.out.size)); clear hb))
               go_ret
               exact ⟨rfl, HB.out⟩)
  · go_enter Try.func4, Try.ntmps4
    by_cases g1 : 60 < p.length
    · go_wp2_with (go_at_call 10; refine (awake_any _).mono ?_; rintro e w' ⟨rfl, hb⟩; skip)
      go_ret
      exact ⟨rfl, hb⟩
    · by_cases g2 : 100 < s.length
      · go_wp2_with (go_at_call 10; refine (awake_any _).mono ?_; rintro e w' ⟨rfl, hb⟩; skip)
        go_ret
        exact ⟨rfl, hb⟩
      · have g3 : 100 < more.length := by omega
        go_wp2_with (go_at_call 10; refine (awake_any _).mono ?_; rintro e w' ⟨rfl, hb⟩; skip)
        go_ret
        exact ⟨rfl, hb⟩

theorem walkB (a0 a1 a2 : ByteArray) (w0 : a0.size ≤ maxLen) (w1 : a1.size ≤ maxLen) (w2 : a2.size ≤ maxLen) (w : World) :
    Calls Try.prog 4 #[.string a0, .string a1, .string a2] w fun e w' => e = .returned (.bool true) ∧ Below w.heap.size w w' := by
  cases a0 with
  | mk d0 => cases a1 with
    | mk d1 => cases a2 with
      | mk d2 => cases d0 with
        | mk l0 => cases d1 with
          | mk l1 => cases d2 with
            | mk l2 => exact walk l0 l1 l2 (by simpa [ByteArray.size, maxLen] using w0) (by simpa [ByteArray.size, maxLen] using w1) (by simpa [ByteArray.size, maxLen] using w2) w

set_option maxRecDepth 100000 in
theorem lifted (os : Os) (started : os.Started) (H : Type) (enc : TypeId × Value → H) :
    ReturnsInHanded {} Try.checked os 4 .any (Rows.textGlobsSpec.pre6 enc Try.prog Try.f4 Rows.textGlobsRow.domain false) (Rows.textGlobsSpec.post enc Try.prog Try.f4 false true false false) := by
  refine returnsInHanded_of_change (C := Try.checked) own started (by kernel_rfl) Try.func4
    (ChangeSpec.witness6 (enc := enc) (C := Try.checked) false ⟨#[], #[.string ByteArray.empty, .string ByteArray.empty, .string ByteArray.empty], []⟩ 8 (by kernel_rfl) (by kernel_rfl) (by kernel_rfl) (by kernel_rfl)) ?_
  intro W base args ds gs before hval0 hW hcnd _
  have hval : ∀ (j : Nat) t v, Try.f4.params[j]? = some t → args[j]? = some v → Value.okWide Try.prog W .any base t v := hval0
  have hW' := hW
  obtain ⟨p, q, hA0, hV, rfl, hfz, hnd⟩ := hW
  have hA : DataW.TrodAll enc Try.prog W 0 (fun _ => true) true Try.f4.params.toList args.toList ds p := hA0
  rw [Try.params4] at hA hval
  obtain ⟨v0, vs0, d0, ds0, p0, q0, hargs, rfl, rfl, h0, r0⟩ := trodAll_cons hA
  obtain ⟨v1, vs1, d1, ds1, p1, q1, rfl, rfl, rfl, h1, r1⟩ := trodAll_cons r0
  obtain ⟨v2, vs2, d2, ds2, p2, q2, rfl, rfl, rfl, h2, r2⟩ := trodAll_cons r1
  obtain ⟨rfl, rfl, rfl⟩ := trodAll_nil r2
  obtain rfl : args = #[v0, v1, v2] := by cases args; simp_all
  obtain ⟨rfl, rfl⟩ := trodVars_none hV
  obtain ⟨a0, rfl, rfl, rfl, w0⟩ := open_string Try.underlying9 (hval 0 9 v0 rfl rfl) h0
  obtain ⟨a1, rfl, rfl, rfl, w1⟩ := open_string Try.underlying9 (hval 1 9 v1 rfl rfl) h1
  obtain ⟨a2, rfl, rfl, rfl, w2⟩ := open_string Try.underlying9 (hval 2 9 v2 rfl rfl) h2
  clear hA0 hval0
  simp only [List.append_nil] at hW'
  refine (walkB a0 a1 a2 w0 w1 w2 W).mono fun e W' ⟨he, hg⟩ => ?_
  subst he
  exact ⟨_, rfl, _, _, _, [], [] ++ ([] ++ ([] ++ [])), [], hW', trodAll_cons_mk (shut_bool Try.underlying4 _) trodAll_mk0,
    trodAll_cons_mk (shut_string Try.underlying9 w0) (trodAll_cons_mk (shut_string Try.underlying9 w1) (trodAll_cons_mk (shut_string Try.underlying9 w2) trodAll_mk0)), rfl, hg.frame _, fun h => by cases h⟩

theorem over : Rows.textGlobsRow.holds Try.pinned (OpenSpec.ofChange Rows.textGlobsSpec) :=
  OpenClaim.holds_of_wide 4 Try.f4 rfl rfl rfl rfl rfl rfl rfl ⟨rfl, rfl, rfl, rfl, rfl⟩ rfl rfl rfl rfl rfl (by kernel_rfl) Try.func4 (by kernel_rfl)
    (of_decide_eq_true (by kernel_rfl)) (by unfold Func.isWrapper; first | (rw [if_pos (by decide +kernel)]; kernel_rfl) | (rw [if_neg (by decide +kernel)]; exact ⟨rfl, rfl⟩))
    (fun os started H enc _ => lifted os started H enc)

/-- ████ THE STATEMENT ████ -/
theorem proved : Rows.TextGlobsSaid :=
  over
#print axioms proved
end Go.Proofs.Ytkjeccndbdgghaa.textGlobs
