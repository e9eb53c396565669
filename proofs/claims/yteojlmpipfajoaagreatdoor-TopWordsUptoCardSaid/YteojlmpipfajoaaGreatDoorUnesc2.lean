/- 'Unescape' of package text. -/
import Derived.Test.YteojlmpipfajoaaGreatDoorUnesc
import Derived.Deep.RegionWith
namespace Go.Proofs.YteojlmpipfajoaaGreatDoor
set_option linter.unusedVariables false
set_option linter.unusedSimpArgs false
open Go.RowKit

set_option maxRecDepth 100000 in
set_option maxHeartbeats 3200000 in
theorem Unescape_any (s : Bs) (hs : s.length ≤ 1000000) (w : World) :
    Calls Tryz.prog 94 #[.string ⟨s.toArray⟩] w fun e w' => e = .returned (.tuple #[.string ⟨(unesc s).1.toArray⟩, .int .i64 ((unesc s).2 : Int)]) ∧ Below w.heap.size w w' := by
  by_cases h0 : s = []
  · subst h0
    go_enter Tryz.func94, Tryz.ntmps94
    go_wp2_with fail
    go_ret2
    exact ⟨rfl, Below.refl _ _⟩
  have hl : 0 < s.length := List.length_pos_iff.2 h0
  have he : s.isEmpty = false := by cases s with | nil => exact absurd rfl h0 | cons _ _ => rfl
  by_cases hc : (s[0].toNat : Int) = 92
  rotate_left
  · have HU := Lib.hid (unesc_no hl hc)
    have t1 : ((s[0].toNat : Int) != 92) = true := by simpa using hc
    go_enter Tryz.func94, Tryz.ntmps94
    go_wp2_with fail
    go_ret2
    exact ⟨by rw [HU.out]; rfl, Below.refl _ _⟩
  by_cases h1 : s.length = 1
  · have HU := Lib.hid (unesc_one hl hc h1)
    have t2 : ((s.length : Int) == 1) = true := by rw [beq_iff_eq]; omega
    go_enter Tryz.func94, Tryz.ntmps94
    go_wp2_with fail
    go_ret2
    exact ⟨by rw [HU.out]; rfl, Below.refl _ _⟩
  have hl2 : 1 < s.length := by omega
  have t2 : ((s.length : Int) == 1) = false := by rw [beq_eq_false_iff_ne]; omega
  have hlI : (2 : Int) ≤ (s.length : Int) := by omega
  have hlI1 : (1 : Int) ≤ (s.length : Int) := by omega
  have hlN : 2 ≤ s.length := by omega
  have HU := Lib.hid (unesc_two hl2 hc)
  have HIB : Hid (∀ W, Calls Tryz.prog 62 #[.string ⟨[97, 98, 116, 110, 118, 102, 114].toArray⟩, .int .u8 (s[1].toNat : Int)] W fun e w' => e = .returned (.int .i64 (escI s[1].toNat)) ∧ W = w') := by
    intro W
    have h := Tryz.strings_IndexByte ⟨[97, 98, 116, 110, 118, 102, 114].toArray⟩ (s[1].toNat : Int) W
    rw [show ((s[1].toNat : Int)).toNat.toUInt8 = s[1] from by rw [Int.toNat_natCast]; exact byte_inj (by simp), index_esc] at h
    exact h.mono fun e w' h => ⟨h.1, h.2.symm⟩
  have h255 := byte_lt s[1]
  have h000 : (0 : Int) ≤ (s[1].toNat : Int) := by omega
  by_cases e1 : (0 : Int) ≤ escI (s[1].toNat : Int)
  · have HV := Lib.hid (unesc1_esc (s := s) e1)
    have hi6 := (escI_nn (s[1].toNat : Int)).2
    have t3 : decide ((0 : Int) ≤ escI (s[1].toNat : Int)) = true := by simpa using e1
    have hone := one_byte ((7 : Int) + escI (s[1].toNat : Int)) (by omega) (by omega) 5 w
    generalize escI (s[1].toNat : Int) = i at *
    go_enter Tryz.func94, Tryz.ntmps94
    go_wp2_with (go_at_call 62; refine (HIB.out _).mono ?_; rintro e w' ⟨rfl, rfl⟩)
    go_ret2
    exact ⟨by rw [HU.out, HV.out]; rfl, (Below.refl _ _).alloc (Nat.le_refl _) _⟩
  have t4 : decide ((0 : Int) ≤ escI (s[1].toNat : Int)) = false := by simpa using e1
  have HOct := Lib.hid (unesc1_oct hl2 e1)
  have HEls := Lib.hid (unesc1_else hl2 e1)
  generalize hei : escI (s[1].toNat : Int) = i at *
  clear hei e1
  by_cases hx : s[1].toNat = 120
  · have t5 : ((s[1].toNat : Int) == 120) = true := by rw [beq_iff_eq]; omega
    have HD := Lib.hid (fun W => digits_any (s.drop 2) 16 2 (by simp; omega) (.inr rfl) (by omega) W)
    by_cases hk : 0 < (digF 16 2 (s.drop 2) 0).2
    · have HV := Lib.hid (unesc1_hex hl2 hx hk)
      have hle := (digF_le 16 2 (s.drop 2) 0).1
      generalize digF 16 2 (s.drop 2) 0 = q at *
      obtain ⟨qv, qn⟩ := q
      simp only at HD HV hk hle
      have t6 : decide (0 < (qn : Int)) = true := by rw [decide_eq_true_eq]; omega
      have hone := one_byte ((byteI qv).toNat : Int) (by omega) (byte_lt _) 5 w
      clear hx
      go_enter Tryz.func94, Tryz.ntmps94
      go_wp2_with (first | (go_at_call 62; refine (HIB.out _).mono ?_; rintro e w' ⟨rfl, rfl⟩) | (go_at_call 106; refine (HD.out _).mono ?_; rintro e w' ⟨rfl, rfl⟩))
      go_ret2
      exact ⟨by rw [HU.out, HV.out, byteI_id]; simp, (Below.refl _ _).alloc (Nat.le_refl _) _⟩
    · have HV := Lib.hid (unesc1_x hl2 hx hk)
      have HO := Lib.hid (fun W => digits_any (s.drop 1) 8 3 (by simp; omega) (.inl rfl) (by omega) W)
      have hzero := oct_out hl2 (by rw [hx]; decide)
      rw [hzero, ← tail_all] at HO
      have hq0 : (digF 16 2 (s.drop 2) 0).2 = 0 := by omega
      generalize digF 16 2 (s.drop 2) 0 = q at *
      obtain ⟨qv, qn⟩ := q
      simp only at HD HO hq0
      subst hq0
      have t6 : ((s[1].toNat : Int) == 10) = false := by rw [beq_eq_false_iff_ne]; omega
      have HT := Lib.hid (take_one hl2)
      clear hx hzero hk
      go_enter Tryz.func94, Tryz.ntmps94
      go_wp2_with (first | (go_at_call 62; refine (HIB.out _).mono ?_; rintro e w' ⟨rfl, rfl⟩) | (go_at_call_of 106 (Value.int IntKind.i64 16); refine (HD.out _).mono ?_; rintro e w' ⟨rfl, rfl⟩) | (go_at_call_of 106 (Value.int IntKind.i64 8); refine (HO.out _).mono ?_; rintro e w' ⟨rfl, rfl⟩))
      go_ret2
      exact ⟨by rw [HU.out, HV.out, ← HT.out]; rfl, Below.refl _ _⟩
  have t5 : ((s[1].toNat : Int) == 120) = false := by rw [beq_eq_false_iff_ne]; omega
  have HO := Lib.hid (fun W => digits_any (s.drop 1) 8 3 (by simp; omega) (.inl rfl) (by omega) W)
  by_cases hk : 0 < (digF 8 3 (s.drop 1) 0).2
  · have HV := Lib.hid (HOct.out hx hk)
    have hle := (digF_le 8 3 (s.drop 1) 0).1
    rw [← tail_all] at HO HV hk hle
    generalize digF 8 3 (s.tail.take (s.length - 1)) 0 = q at *
    obtain ⟨qv, qn⟩ := q
    simp only at HO HV hk hle
    have t6 : decide (0 < (qn : Int)) = true := by rw [decide_eq_true_eq]; omega
    have hone := one_byte ((byteI qv).toNat : Int) (by omega) (byte_lt _) 5 w
    clear hx
    go_enter Tryz.func94, Tryz.ntmps94
    go_wp2_with (first | (go_at_call 62; refine (HIB.out _).mono ?_; rintro e w' ⟨rfl, rfl⟩) | (go_at_call 106; refine (HO.out _).mono ?_; rintro e w' ⟨rfl, rfl⟩))
    go_ret2
    exact ⟨by rw [HU.out, HV.out, byteI_id]; simp, (Below.refl _ _).alloc (Nat.le_refl _) _⟩
  have HK := Lib.hid hk
  have hq0 : (digF 8 3 (s.drop 1) 0).2 = 0 := by omega
  by_cases hn : s[1].toNat = 10
  · have HV := Lib.hid (unesc1_nl hl2 hn)
    have t7 : ((s[1].toNat : Int) == 10) = true := by rw [beq_iff_eq]; omega
    rw [← tail_all] at HO hq0
    generalize digF 8 3 (s.tail.take (s.length - 1)) 0 = q at *
    obtain ⟨qv, qn⟩ := q
    simp only at HO hq0
    subst hq0
    clear hx hk hn HK
    go_enter Tryz.func94, Tryz.ntmps94
    go_wp2_with (first | (go_at_call 62; refine (HIB.out _).mono ?_; rintro e w' ⟨rfl, rfl⟩) | (go_at_call 106; refine (HO.out _).mono ?_; rintro e w' ⟨rfl, rfl⟩))
    go_loop [9] (fun n => ∃ k : Nat, 2 ≤ k ∧ k ≤ s.length ∧ n = .int .i64 k ∧ Hid (2 + ((s.drop 2).takeWhile isBl).length = k + ((s.drop k).takeWhile isBl).length)) (fun n => s.length - (intOf n).toNat)
    case atStart => exact ⟨2, Nat.le_refl _, hlN, rfl, rfl⟩
    case round =>
      obtain ⟨k, hk2, hk, rfl, H⟩ := hrel
      by_cases hlt : k < s.length
      · have hlt1 : decide ((k : Int) < (s.length : Int)) = true := by rw [decide_eq_true_eq]; omega
        have h255k := byte_lt s[k]
        have HB : Hid (isBl s[k] = ((s[k].toNat : Int) == 32 || (s[k].toNat : Int) == 9)) := rfl
        by_cases q1 : ((s[k].toNat : Int) == 32) = true
        · have HN : Hid (2 + ((s.drop 2).takeWhile isBl).length = (k + 1) + ((s.drop (k + 1)).takeWhile isBl).length) := by
            show _ = _
            rw [H.out, tw_in hlt (by rw [HB.out, q1]; rfl)]; omega
          clear H HB
          go_wp2_with fail
          go_round
          case rel => exact ⟨k + 1, by omega, by omega, by go_num, HN⟩
          case measure => simp [intOf]; omega
        · have q1f : ((s[k].toNat : Int) == 32) = false := by simpa using q1
          by_cases q2 : ((s[k].toNat : Int) == 9) = true
          · have HN : Hid (2 + ((s.drop 2).takeWhile isBl).length = (k + 1) + ((s.drop (k + 1)).takeWhile isBl).length) := by
              show _ = _
              rw [H.out, tw_in hlt (by rw [HB.out, q2, Bool.or_true])]; omega
            clear H HB q1
            go_wp2_with fail
            go_round
            case rel => exact ⟨k + 1, by omega, by omega, by go_num, HN⟩
            case measure => simp [intOf]; omega
          · have q2f : ((s[k].toNat : Int) == 9) = false := by simpa using q2
            have HN : Hid (2 + ((s.drop 2).takeWhile isBl).length = k) := by
              show _ = _
              rw [H.out, tw_out hlt (by rw [HB.out, q1f, q2f]; rfl)]; omega
            clear H HB q1 q2
            go_wp2_with fail
            go_ret2
            exact ⟨by rw [HU.out, HV.out, HN.out]; rfl, Below.refl _ _⟩
      · have hlt1 : decide ((k : Int) < (s.length : Int)) = false := by rw [decide_eq_false_iff_not]; omega
        have HN : Hid (2 + ((s.drop 2).takeWhile isBl).length = k) := by
          show _ = _
          rw [H.out, List.drop_eq_nil_of_le (by omega)]; rfl
        clear H
        go_wp2_with fail
        go_ret2
        exact ⟨by rw [HU.out, HV.out, HN.out]; rfl, Below.refl _ _⟩
  · have HV := Lib.hid (HEls.out hx hk hn)
    have t7 : ((s[1].toNat : Int) == 10) = false := by rw [beq_eq_false_iff_ne]; omega
    rw [← tail_all] at HO hq0
    generalize digF 8 3 (s.tail.take (s.length - 1)) 0 = q at *
    obtain ⟨qv, qn⟩ := q
    simp only at HO hq0
    subst hq0
    have HT := Lib.hid (take_one hl2)
    clear hx hk hn HK
    go_enter Tryz.func94, Tryz.ntmps94
    go_wp2_with (first | (go_at_call 62; refine (HIB.out _).mono ?_; rintro e w' ⟨rfl, rfl⟩) | (go_at_call 106; refine (HO.out _).mono ?_; rintro e w' ⟨rfl, rfl⟩))
    go_ret2
    exact ⟨by rw [HU.out, HV.out, ← HT.out]; rfl, Below.refl _ _⟩
end Go.Proofs.YteojlmpipfajoaaGreatDoor
