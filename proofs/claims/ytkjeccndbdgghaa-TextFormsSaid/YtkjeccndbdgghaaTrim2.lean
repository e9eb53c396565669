/- 'Trim' of both packages. -/
import Derived.Test.YtkjeccndbdgghaaTrim
namespace Go.Proofs.Ytkjeccndbdgghaa
open Go.RowKit

def strLen (v : Value) : Nat := match v with | .string b => b.size | _ => 0
theorem inB_index (cs : Bs) (c : UInt8) : inB cs c = decide (0 ≤ Lib.indexByte cs c) := by
  induction cs with
  | nil => rfl
  | cons b l ih =>
    have hge := Lib.indexByte_ge l c
    have hbc : ((b.toNat : Int) == (c.toNat : Int)) = (b == c) := by
      rw [Bool.eq_iff_iff, beq_iff_eq, beq_iff_eq]
      exact ⟨fun h => byte_inj (by omega), fun h => by rw [h]⟩
    have h1 : inB (b :: l) c = (((b.toNat : Int) == (c.toNat : Int)) || inB l c) := rfl
    have h2 : Lib.indexByte (b :: l) c = if (b == c) = true then 0 else if (Lib.indexByte l c == -1) = true then -1 else Lib.indexByte l c + 1 := rfl
    rw [h1, hbc, ih, h2]
    cases hb : b == c with
    | true => simp
    | false =>
      simp only [Bool.false_or, Bool.false_eq_true, if_false]
      by_cases h : Lib.indexByte l c = -1
      · simp [h]
      · rw [if_neg (by simpa using h), Bool.eq_iff_iff, decide_eq_true_eq, decide_eq_true_eq]; omega

theorem drop_tail (t : Bs) (n : Nat) (h : t.length - 1 ≤ n) : t.tail.take n = t.drop 1 := by rw [← List.drop_one, List.take_of_length_le (by simp; omega)]

set_option maxRecDepth 100000 in
set_option maxHeartbeats 1600000 in
theorem Trim_any (s chars : Bs) (l r : Bool) (hs : s.length ≤ 1000000) (hc : chars.length ≤ 1000000) (w : World) :
    Calls Try.prog 27 #[.string ⟨s.toArray⟩, .string ⟨chars.toArray⟩, .bool l, .bool r] w fun e w' => e = .returned (.string ⟨(trimC chars s l r).toArray⟩) ∧ w = w' := by
  obtain ⟨s1, hs1⟩ : ∃ s1, s1 = if l then trimL chars s else s := ⟨_, rfl⟩
  have HS1 := Lib.hid hs1
  have HR : Hid (trimC chars s l r = if r then trimR chars s1 else s1) := by show _ = _; rw [hs1]; rfl
  clear hs1
  have HF := Lib.hid (fun (c : UInt8) (W : World) => ((Try.strings_IndexByte ⟨chars.toArray⟩ (c.toNat : Int) W).mono (R' := fun e w' => e = .returned (.int .i64 (Lib.indexByte chars c)) ∧ W = w') fun e w' h => ⟨by rw [h.1, show ((c.toNat : Int)).toNat.toUInt8 = c from by rw [Int.toNat_natCast]; exact byte_inj (by simp)], h.2.symm⟩))
  go_enter Try.func27, Try.ntmps27
  go_wp2_with fail
  go_loop [0] (fun v => ∃ (i : Nat) (t : Bs), i ≤ s.length ∧ t = s.drop i ∧ v = .string ⟨t.toArray⟩ ∧ Hid (s1 = if l then trimL chars t else t)) (fun v => (strLen v))
  case atStart => exact ⟨0, s, Nat.zero_le _, rfl, rfl, HS1⟩
  case round =>
    obtain ⟨i, t, hi, ht, rfl, H⟩ := hrel
    have htl : t.length = s.length - i := by rw [ht]; simp
    have HT := Lib.hid ht
    clear ht
    by_cases hin : l = true ∧ ∃ h : 0 < t.length, inB chars t[0] = true
    · obtain ⟨rfl, hl, hin⟩ := hin
      have he : t.isEmpty = false := by cases t with | nil => simp at hl | cons _ _ => rfl
      have hl1 : 1 ≤ t.length := hl
      have hlI : (1 : Int) ≤ (t.length : Int) := by omega
      have HN : Hid (s1 = trimL chars (t.drop 1)) := by show _ = _; rw [H.out, if_pos rfl, ← trimL_in hl hin]; rfl
      have HC := Lib.hid (fun W => HF.out t[0] W)
      rw [inB_index] at hin
      generalize Lib.indexByte chars t[0] = ix at *
      clear H
      go_wp2_with (go_at_call 59; refine (HC.out _).mono ?_; rintro e w' ⟨rfl, rfl⟩)
      go_round
      case rel => exact ⟨i + 1, t.drop 1, by omega, by rw [HT.out, List.drop_drop], by first | (simp; done) | (simp; rw [List.take_of_length_le (by simp; omega)]), by show _ = _; rw [HN.out]; first | done | rfl⟩
      case measure => simp [strLen, ByteArray.size]; omega
    · have hres : s1 = t := by
        cases l with
        | false => exact H.out
        | true =>
          rw [H.out, if_pos rfl]
          by_cases hl : 0 < t.length
          · have h0 : inB chars t[0] = false := by
              cases h : inB chars t[0] with
              | false => rfl
              | true => exact absurd ⟨rfl, hl, h⟩ hin
            exact trimL_out hl h0
          · have : t = [] := List.length_eq_zero_iff.1 (by omega)
            subst this; rfl
      subst hres
      have hout : Hid (l = true → ∀ h : 0 < s1.length, inB chars s1[0] = false) := by
        intro h1 h2
        cases h : inB chars s1[0] with
        | false => rfl
        | true => exact absurd ⟨h1, h2, h⟩ hin
      clear hin H HS1 HT
      have hloop : ∀ u : World, u = w → True := fun _ _ => trivial
      clear hloop
      by_cases hl : l = true ∧ s1 ≠ []
      · obtain ⟨rfl, hne⟩ := hl
        have hlp : 0 < s1.length := List.length_pos_iff.2 hne
        have he : s1.isEmpty = false := by cases s1 with | nil => exact absurd rfl hne | cons _ _ => rfl
        have hin0 := hout.out rfl hlp
        have HC := Lib.hid (fun W => HF.out s1[0] W)
        rw [inB_index] at hin0
        generalize Lib.indexByte chars s1[0] = ix at *
        clear hout hne
        go_wp2_with (go_at_call 59; refine (HC.out _).mono ?_; rintro e w' ⟨rfl, rfl⟩)
        clear HC hin0
        go_loop [0] (fun v => ∃ (t : Bs), t.length ≤ s1.length ∧ Hid (t = s1.take t.length) ∧ v = .string ⟨t.toArray⟩ ∧ Hid (trimC chars s true r = if r then trimR chars t else t)) (fun v => strLen v)
        case atStart => exact ⟨s1, Nat.le_refl _, (List.take_of_length_le (Nat.le_refl _)).symm, by first | rfl | (rw [hne]), HR⟩
        case round =>
          obtain ⟨t, hn, HT, rfl, H⟩ := hrel
          by_cases hin : r = true ∧ ∃ h : 0 < t.length, inB chars (t[t.length - 1]'(by omega)) = true
          · obtain ⟨rfl, hl, hin⟩ := hin
            have he : t.isEmpty = false := by cases t with | nil => simp at hl | cons _ _ => rfl
            have hl1 : 1 ≤ t.length := hl
            have hlI : (1 : Int) ≤ (t.length : Int) := by omega
            have hq : t.length - 1 < t.length := by omega
            have HN : Hid (trimC chars s true true = trimR chars (t.take (t.length - 1))) := by
              show _ = _
              rw [H.out, if_pos rfl, ← trimR_in hq hin, show t.length - 1 + 1 = t.length from by omega, List.take_of_length_le (Nat.le_refl _)]
            have HNT : Hid (t.take (t.length - 1) = s1.take (t.take (t.length - 1)).length) := by
              show _ = _
              rw [List.length_take, Nat.min_eq_left (by omega)]
              conv => lhs; rw [HT.out, List.take_take]
              congr 1; simp; omega
            have HC := Lib.hid (fun W => HF.out (t[t.length - 1]'hq) W)
            obtain ⟨m, hm⟩ : ∃ m, t.length - 1 = m := ⟨_, rfl⟩
            rw [inB_index] at hin
            generalize Lib.indexByte chars (t[t.length - 1]'hq) = ix at *
            have e1 : ((t.length : Int) - 1).toNat = t.length - 1 := by omega
            have e2 : (0 : Int) ≤ (t.length : Int) - 1 := by omega
            have e3 : (t.length : Int) - 1 ≤ (t.length : Int) := by omega
            clear H hm
            go_wp2_with (go_at_call 59; refine (HC.out _).mono ?_; rintro e w' ⟨rfl, rfl⟩)
            go_round
            case rel => exact ⟨t.take (t.length - 1), by simp; omega, HNT, by simp, by show _ = _; rw [HN.out]; first | done | rfl⟩
            case measure => simp [strLen, ByteArray.size]; omega
          · have hres : trimC chars s true r = t := by
              cases r with
              | false => exact H.out
              | true =>
                rw [H.out, if_pos rfl]
                by_cases hl : 0 < t.length
                · have hq : t.length - 1 < t.length := by omega
                  have h0 : inB chars (t[t.length - 1]'hq) = false := by
                    cases h : inB chars (t[t.length - 1]'hq) with
                    | false => rfl
                    | true => exact absurd ⟨rfl, hl, h⟩ hin
                  have h2 := trimR_out hq h0
                  rwa [show t.length - 1 + 1 = t.length from by omega, List.take_of_length_le (Nat.le_refl _)] at h2
                · have : t = [] := List.length_eq_zero_iff.1 (by omega)
                  subst this; rfl
            have Hres := Lib.hid hres
            clear hres H
            by_cases hr : r = true
            · subst hr
              by_cases hl : 0 < t.length
              · have hq : t.length - 1 < t.length := by omega
                have hin0 : inB chars (t[t.length - 1]'hq) = false := by
                  cases h : inB chars (t[t.length - 1]'hq) with
                  | false => rfl
                  | true => exact absurd ⟨rfl, hl, h⟩ hin
                have he : t.isEmpty = false := by cases t with | nil => simp at hl | cons _ _ => rfl
                have HC := Lib.hid (fun W => HF.out (t[t.length - 1]'hq) W)
                rw [inB_index] at hin0
                generalize Lib.indexByte chars (t[t.length - 1]'hq) = ix at *
                have e1 : ((t.length : Int) - 1).toNat = t.length - 1 := by omega
                have e2 : (0 : Int) ≤ (t.length : Int) - 1 := by omega
                clear hin
                go_wp2_with (go_at_call 59; refine (HC.out _).mono ?_; rintro e w' ⟨rfl, rfl⟩)
                go_ret
                exact ⟨by rw [Hres.out]; rfl, rfl⟩
              · have : t = [] := List.length_eq_zero_iff.1 (by omega)
                subst this
                clear hin
                go_wp2_with fail
                go_ret
                exact ⟨by rw [Hres.out]; rfl, rfl⟩
            · have hrf : r = false := by simpa using hr
              subst hrf
              clear hin hr
              go_wp2_with fail
              go_ret
              exact ⟨by rw [Hres.out]; rfl, rfl⟩
      · by_cases hl1 : l = true
        · subst hl1
          have hne : s1 = [] := Classical.byContradiction fun h => hl ⟨rfl, h⟩
          have he0 : s1.isEmpty = true := by rw [hne]; rfl
          have hd0 : decide (s1 = []) = true := by simpa using hne
          clear hl hout
          go_wp2_with fail
          go_loop [0] (fun v => ∃ (t : Bs), t.length ≤ s1.length ∧ Hid (t = s1.take t.length) ∧ v = .string ⟨t.toArray⟩ ∧ Hid (trimC chars s true r = if r then trimR chars t else t)) (fun v => strLen v)
          case atStart => exact ⟨s1, Nat.le_refl _, (List.take_of_length_le (Nat.le_refl _)).symm, by first | rfl | (rw [hne]), HR⟩
          case round =>
            obtain ⟨t, hn, HT, rfl, H⟩ := hrel
            by_cases hin : r = true ∧ ∃ h : 0 < t.length, inB chars (t[t.length - 1]'(by omega)) = true
            · obtain ⟨rfl, hl, hin⟩ := hin
              have he : t.isEmpty = false := by cases t with | nil => simp at hl | cons _ _ => rfl
              have hl1 : 1 ≤ t.length := hl
              have hlI : (1 : Int) ≤ (t.length : Int) := by omega
              have hq : t.length - 1 < t.length := by omega
              have HN : Hid (trimC chars s true true = trimR chars (t.take (t.length - 1))) := by
                show _ = _
                rw [H.out, if_pos rfl, ← trimR_in hq hin, show t.length - 1 + 1 = t.length from by omega, List.take_of_length_le (Nat.le_refl _)]
              have HNT : Hid (t.take (t.length - 1) = s1.take (t.take (t.length - 1)).length) := by
                show _ = _
                rw [List.length_take, Nat.min_eq_left (by omega)]
                conv => lhs; rw [HT.out, List.take_take]
                congr 1; simp; omega
              have HC := Lib.hid (fun W => HF.out (t[t.length - 1]'hq) W)
              obtain ⟨m, hm⟩ : ∃ m, t.length - 1 = m := ⟨_, rfl⟩
              rw [inB_index] at hin
              generalize Lib.indexByte chars (t[t.length - 1]'hq) = ix at *
              have e1 : ((t.length : Int) - 1).toNat = t.length - 1 := by omega
              have e2 : (0 : Int) ≤ (t.length : Int) - 1 := by omega
              have e3 : (t.length : Int) - 1 ≤ (t.length : Int) := by omega
              clear H hm
              go_wp2_with (go_at_call 59; refine (HC.out _).mono ?_; rintro e w' ⟨rfl, rfl⟩)
              go_round
              case rel => exact ⟨t.take (t.length - 1), by simp; omega, HNT, by simp, by show _ = _; rw [HN.out]; first | done | rfl⟩
              case measure => simp [strLen, ByteArray.size]; omega
            · have hres : trimC chars s true r = t := by
                cases r with
                | false => exact H.out
                | true =>
                  rw [H.out, if_pos rfl]
                  by_cases hl : 0 < t.length
                  · have hq : t.length - 1 < t.length := by omega
                    have h0 : inB chars (t[t.length - 1]'hq) = false := by
                      cases h : inB chars (t[t.length - 1]'hq) with
                      | false => rfl
                      | true => exact absurd ⟨rfl, hl, h⟩ hin
                    have h2 := trimR_out hq h0
                    rwa [show t.length - 1 + 1 = t.length from by omega, List.take_of_length_le (Nat.le_refl _)] at h2
                  · have : t = [] := List.length_eq_zero_iff.1 (by omega)
                    subst this; rfl
              have Hres := Lib.hid hres
              clear hres H
              by_cases hr : r = true
              · subst hr
                by_cases hl : 0 < t.length
                · have hq : t.length - 1 < t.length := by omega
                  have hin0 : inB chars (t[t.length - 1]'hq) = false := by
                    cases h : inB chars (t[t.length - 1]'hq) with
                    | false => rfl
                    | true => exact absurd ⟨rfl, hl, h⟩ hin
                  have he : t.isEmpty = false := by cases t with | nil => simp at hl | cons _ _ => rfl
                  have HC := Lib.hid (fun W => HF.out (t[t.length - 1]'hq) W)
                  rw [inB_index] at hin0
                  generalize Lib.indexByte chars (t[t.length - 1]'hq) = ix at *
                  have e1 : ((t.length : Int) - 1).toNat = t.length - 1 := by omega
                  have e2 : (0 : Int) ≤ (t.length : Int) - 1 := by omega
                  clear hin
                  go_wp2_with (go_at_call 59; refine (HC.out _).mono ?_; rintro e w' ⟨rfl, rfl⟩)
                  go_ret
                  exact ⟨by rw [Hres.out]; rfl, rfl⟩
                · have : t = [] := List.length_eq_zero_iff.1 (by omega)
                  subst this
                  clear hin
                  go_wp2_with fail
                  go_ret
                  exact ⟨by rw [Hres.out]; rfl, rfl⟩
              · have hrf : r = false := by simpa using hr
                subst hrf
                clear hin hr
                go_wp2_with fail
                go_ret
                exact ⟨by rw [Hres.out]; rfl, rfl⟩
        · have hlf : l = false := by simpa using hl1
          subst hlf
          clear hl hout hl1
          go_wp2_with fail
          go_loop [0] (fun v => ∃ (t : Bs), t.length ≤ s1.length ∧ Hid (t = s1.take t.length) ∧ v = .string ⟨t.toArray⟩ ∧ Hid (trimC chars s false r = if r then trimR chars t else t)) (fun v => strLen v)
          case atStart => exact ⟨s1, Nat.le_refl _, (List.take_of_length_le (Nat.le_refl _)).symm, by first | rfl | (rw [hne]), HR⟩
          case round =>
            obtain ⟨t, hn, HT, rfl, H⟩ := hrel
            by_cases hin : r = true ∧ ∃ h : 0 < t.length, inB chars (t[t.length - 1]'(by omega)) = true
            · obtain ⟨rfl, hl, hin⟩ := hin
              have he : t.isEmpty = false := by cases t with | nil => simp at hl | cons _ _ => rfl
              have hl1 : 1 ≤ t.length := hl
              have hlI : (1 : Int) ≤ (t.length : Int) := by omega
              have hq : t.length - 1 < t.length := by omega
              have HN : Hid (trimC chars s false true = trimR chars (t.take (t.length - 1))) := by
                show _ = _
                rw [H.out, if_pos rfl, ← trimR_in hq hin, show t.length - 1 + 1 = t.length from by omega, List.take_of_length_le (Nat.le_refl _)]
              have HNT : Hid (t.take (t.length - 1) = s1.take (t.take (t.length - 1)).length) := by
                show _ = _
                rw [List.length_take, Nat.min_eq_left (by omega)]
                conv => lhs; rw [HT.out, List.take_take]
                congr 1; simp; omega
              have HC := Lib.hid (fun W => HF.out (t[t.length - 1]'hq) W)
              obtain ⟨m, hm⟩ : ∃ m, t.length - 1 = m := ⟨_, rfl⟩
              rw [inB_index] at hin
              generalize Lib.indexByte chars (t[t.length - 1]'hq) = ix at *
              have e1 : ((t.length : Int) - 1).toNat = t.length - 1 := by omega
              have e2 : (0 : Int) ≤ (t.length : Int) - 1 := by omega
              have e3 : (t.length : Int) - 1 ≤ (t.length : Int) := by omega
              clear H hm
              go_wp2_with (go_at_call 59; refine (HC.out _).mono ?_; rintro e w' ⟨rfl, rfl⟩)
              go_round
              case rel => exact ⟨t.take (t.length - 1), by simp; omega, HNT, by simp, by show _ = _; rw [HN.out]; first | done | rfl⟩
              case measure => simp [strLen, ByteArray.size]; omega
            · have hres : trimC chars s false r = t := by
                cases r with
                | false => exact H.out
                | true =>
                  rw [H.out, if_pos rfl]
                  by_cases hl : 0 < t.length
                  · have hq : t.length - 1 < t.length := by omega
                    have h0 : inB chars (t[t.length - 1]'hq) = false := by
                      cases h : inB chars (t[t.length - 1]'hq) with
                      | false => rfl
                      | true => exact absurd ⟨rfl, hl, h⟩ hin
                    have h2 := trimR_out hq h0
                    rwa [show t.length - 1 + 1 = t.length from by omega, List.take_of_length_le (Nat.le_refl _)] at h2
                  · have : t = [] := List.length_eq_zero_iff.1 (by omega)
                    subst this; rfl
              have Hres := Lib.hid hres
              clear hres H
              by_cases hr : r = true
              · subst hr
                by_cases hl : 0 < t.length
                · have hq : t.length - 1 < t.length := by omega
                  have hin0 : inB chars (t[t.length - 1]'hq) = false := by
                    cases h : inB chars (t[t.length - 1]'hq) with
                    | false => rfl
                    | true => exact absurd ⟨rfl, hl, h⟩ hin
                  have he : t.isEmpty = false := by cases t with | nil => simp at hl | cons _ _ => rfl
                  have HC := Lib.hid (fun W => HF.out (t[t.length - 1]'hq) W)
                  rw [inB_index] at hin0
                  generalize Lib.indexByte chars (t[t.length - 1]'hq) = ix at *
                  have e1 : ((t.length : Int) - 1).toNat = t.length - 1 := by omega
                  have e2 : (0 : Int) ≤ (t.length : Int) - 1 := by omega
                  clear hin
                  go_wp2_with (go_at_call 59; refine (HC.out _).mono ?_; rintro e w' ⟨rfl, rfl⟩)
                  go_ret
                  exact ⟨by rw [Hres.out]; rfl, rfl⟩
                · have : t = [] := List.length_eq_zero_iff.1 (by omega)
                  subst this
                  clear hin
                  go_wp2_with fail
                  go_ret
                  exact ⟨by rw [Hres.out]; rfl, rfl⟩
              · have hrf : r = false := by simpa using hr
                subst hrf
                clear hin hr
                go_wp2_with fail
                go_ret
                exact ⟨by rw [Hres.out]; rfl, rfl⟩
end Go.Proofs.Ytkjeccndbdgghaa
