/- The reference's 'in': whether a set has a byte. -/
import Derived.Test.YtjgdfgpnmmkjfaaGreatDoorIn
namespace Go.Proofs.YtjgdfgpnmmkjfaaGreatDoor
set_option linter.unusedVariables false
set_option linter.unusedSimpArgs false
open Go.RowKit

set_option maxRecDepth 100000 in
set_option maxHeartbeats 1600000 in
theorem rin_any (s : Bs) (c : UInt8) (hs : s.length ≤ 1000000) (w : World) :
    Calls Tryz.prog 126 #[.string ⟨s.toArray⟩, .int .u8 c.toNat] w fun e w' => e = .returned (.bool (inS s c)) ∧ ∃ m, w' = w.drewN m := by
  have hcc := byte_lt c
  go_enter Tryz.func126, Tryz.ntmps126
  go_wp2
  go_loopw [5] (fun v5 wr => ∃ i : Nat, i ≤ s.length ∧ v5 = .int .i64 i ∧ Hid (inS s c = (spansL (s.drop i)).any fun p => inP p c) ∧ ∃ m, wr = w.drewN m) (fun v5 _ => s.length - (intOf v5).toNat)
  case atStart => exact ⟨0, Nat.zero_le _, rfl, rfl, 0, rfl⟩
  case round =>
    obtain ⟨i, hi, rfl, HP, m, rfl⟩ := hrel
    by_cases hlt : i < s.length
    · have h255 := byte_lt s[i]
      by_cases h2 : i + 2 < s.length
      · by_cases hd : s[i + 1] = 45
        · have hdd : ((s[i + 1].toNat : Int) == 45) = true := by rw [hd]; rfl
          have a1 : (i : Int) + 2 < (s.length : Int) := by omega
          have a2 : (0 : Int) ≤ (i : Int) + 2 := by omega
          have a3 : ((i : Int) + 2).toNat = i + 2 := by omega
          have hmi := min_toNat s[i] s[i + 2]
          have hma := max_toNat s[i] s[i + 2]
          have h256 := byte_lt s[i + 2]
          by_cases hl : (s[i].toNat : Int) < s[i + 2].toNat
          · rw [if_pos (Int.le_of_lt hl)] at hmi hma
            have HX : Hid (inS s c = (inP (min s[i] s[i + 2], max s[i] s[i + 2]) c || (spansL (s.drop (i + 3))).any fun p => inP p c)) := by
              show _ = _
              rw [HP.out, spansL_range h2 hd]; rfl
            have HI : Hid (inP (min s[i] s[i + 2], max s[i] s[i + 2]) c = true ↔ (s[i].toNat : Int) ≤ c.toNat ∧ (c.toNat : Int) ≤ s[i + 2].toNat) := by
              show _ ↔ _
              rw [inP_iff, hmi, hma]
            clear HP hmi hma
            by_cases g1 : (s[i].toNat : Int) ≤ c.toNat
            · by_cases g2 : (c.toNat : Int) ≤ s[i + 2].toNat
              · have HT := Lib.hid (HI.out.2 ⟨g1, g2⟩)
                go_wp2_with fail
                go_quiet (fail)
                go_wp2_with fail
                go_ret
                exact ⟨by rw [HX.out, HT.out]; rfl, _, rfl⟩
              · have HT : Hid (inP (min s[i] s[i + 2], max s[i] s[i + 2]) c = false) := by show _ = _; rw [← Bool.not_eq_true]; intro h; exact g2 (HI.out.1 h).2
                go_wp2_with fail
                go_quiet (fail)
                go_wp2_with fail
                go_roundw
                case rel => exact ⟨i + 3, by omega, by go_num, by show _ = _; rw [HX.out, HT.out]; rfl, _, rfl⟩
                case measure => simp [intOf]; omega
            · have HT : Hid (inP (min s[i] s[i + 2], max s[i] s[i + 2]) c = false) := by show _ = _; rw [← Bool.not_eq_true]; intro h; exact g1 (HI.out.1 h).1
              go_wp2_with fail
              go_quiet (fail)
              go_wp2_with fail
              go_roundw
              case rel => exact ⟨i + 3, by omega, by go_num, by show _ = _; rw [HX.out, HT.out]; rfl, _, rfl⟩
              case measure => simp [intOf]; omega
          · by_cases hg : (s[i + 2].toNat : Int) < s[i].toNat
            · rw [if_neg (by omega)] at hmi hma
              have HX : Hid (inS s c = (inP (min s[i] s[i + 2], max s[i] s[i + 2]) c || (spansL (s.drop (i + 3))).any fun p => inP p c)) := by
                show _ = _
                rw [HP.out, spansL_range h2 hd]; rfl
              have HI : Hid (inP (min s[i] s[i + 2], max s[i] s[i + 2]) c = true ↔ (s[i + 2].toNat : Int) ≤ c.toNat ∧ (c.toNat : Int) ≤ s[i].toNat) := by
                show _ ↔ _
                rw [inP_iff, hmi, hma]
              clear HP hmi hma
              by_cases g1 : (s[i + 2].toNat : Int) ≤ c.toNat
              · by_cases g2 : (c.toNat : Int) ≤ s[i].toNat
                · have HT := Lib.hid (HI.out.2 ⟨g1, g2⟩)
                  go_wp2_with fail
                  go_quiet (fail)
                  go_wp2_with fail
                  go_ret
                  exact ⟨by rw [HX.out, HT.out]; rfl, _, rfl⟩
                · have HT : Hid (inP (min s[i] s[i + 2], max s[i] s[i + 2]) c = false) := by show _ = _; rw [← Bool.not_eq_true]; intro h; exact g2 (HI.out.1 h).2
                  go_wp2_with fail
                  go_quiet (fail)
                  go_wp2_with fail
                  go_roundw
                  case rel => exact ⟨i + 3, by omega, by go_num, by show _ = _; rw [HX.out, HT.out]; rfl, _, rfl⟩
                  case measure => simp [intOf]; omega
              · have HT : Hid (inP (min s[i] s[i + 2], max s[i] s[i + 2]) c = false) := by show _ = _; rw [← Bool.not_eq_true]; intro h; exact g1 (HI.out.1 h).1
                go_wp2_with fail
                go_quiet (fail)
                go_wp2_with fail
                go_roundw
                case rel => exact ⟨i + 3, by omega, by go_num, by show _ = _; rw [HX.out, HT.out]; rfl, _, rfl⟩
                case measure => simp [intOf]; omega
            · have he : (s[i + 2].toNat : Int) = s[i].toNat := by omega
              rw [if_pos (by omega)] at hmi hma
              rw [he] at hma
              have HX : Hid (inS s c = (inP (min s[i] s[i + 2], max s[i] s[i + 2]) c || (spansL (s.drop (i + 3))).any fun p => inP p c)) := by
                show _ = _
                rw [HP.out, spansL_range h2 hd]; rfl
              have HI : Hid (inP (min s[i] s[i + 2], max s[i] s[i + 2]) c = true ↔ (s[i].toNat : Int) ≤ c.toNat ∧ (c.toNat : Int) ≤ s[i].toNat) := by
                show _ ↔ _
                rw [inP_iff, hmi, hma]
              clear HP hmi hma
              by_cases g1 : (s[i].toNat : Int) ≤ c.toNat
              · by_cases g2 : (c.toNat : Int) ≤ s[i].toNat
                · have HT := Lib.hid (HI.out.2 ⟨g1, g2⟩)
                  go_wp2_with fail
                  go_quiet (fail)
                  go_wp2_with fail
                  go_ret
                  exact ⟨by rw [HX.out, HT.out]; rfl, _, rfl⟩
                · have HT : Hid (inP (min s[i] s[i + 2], max s[i] s[i + 2]) c = false) := by show _ = _; rw [← Bool.not_eq_true]; intro h; exact g2 (HI.out.1 h).2
                  go_wp2_with fail
                  go_quiet (fail)
                  go_wp2_with fail
                  go_roundw
                  case rel => exact ⟨i + 3, by omega, by go_num, by show _ = _; rw [HX.out, HT.out]; rfl, _, rfl⟩
                  case measure => simp [intOf]; omega
              · have HT : Hid (inP (min s[i] s[i + 2], max s[i] s[i + 2]) c = false) := by show _ = _; rw [← Bool.not_eq_true]; intro h; exact g1 (HI.out.1 h).1
                go_wp2_with fail
                go_quiet (fail)
                go_wp2_with fail
                go_roundw
                case rel => exact ⟨i + 3, by omega, by go_num, by show _ = _; rw [HX.out, HT.out]; rfl, _, rfl⟩
                case measure => simp [intOf]; omega
        · have t45 : ((s[i + 1].toNat : Int) == 45) = false := by rw [beq_eq_false_iff_ne]; intro h; exact hd (byte_inj (by show _ = 45; omega))
          have a2 : (i : Int) + 2 < (s.length : Int) := by omega
          have HX : Hid (inS s c = (inP (s[i], s[i]) c || (spansL (s.drop (i + 1))).any fun p => inP p c)) := by
            show _ = _
            rw [HP.out, spansL_one hlt (fun _ => hd)]; rfl
          clear HP
          by_cases g : s[i] = c
          · have g1 : ((s[i].toNat : Int) == c.toNat) = true := by rw [g]; exact beq_self_eq_true _
            have HT : Hid (inP (s[i], s[i]) c = true) := by show _ = _; rw [inP_iff]; simp only [g]; omega
            clear g
            go_wp2_with fail
            go_ret
            exact ⟨by rw [HX.out, HT.out]; rfl, _, rfl⟩
          · have g1 : ((s[i].toNat : Int) == c.toNat) = false := by rw [beq_eq_false_iff_ne]; intro h; exact g (byte_inj (by omega))
            have HT : Hid (inP (s[i], s[i]) c = false) := by show _ = _; rw [← Bool.not_eq_true, inP_iff]; intro h; exact g (byte_inj (by dsimp only at h; omega))
            clear g
            go_wp2_with fail
            go_roundw
            case rel => exact ⟨i + 1, by omega, by go_num, by show _ = _; rw [HX.out, HT.out]; rfl, _, rfl⟩
            case measure => simp [intOf]; omega
      · have a2 : ¬ (i : Int) + 2 < (s.length : Int) := by omega
        have HX : Hid (inS s c = (inP (s[i], s[i]) c || (spansL (s.drop (i + 1))).any fun p => inP p c)) := by
          show _ = _
          rw [HP.out, spansL_one hlt (fun h => absurd h h2)]; rfl
        clear HP
        by_cases g : s[i] = c
        · have g1 : ((s[i].toNat : Int) == c.toNat) = true := by rw [g]; exact beq_self_eq_true _
          have HT : Hid (inP (s[i], s[i]) c = true) := by show _ = _; rw [inP_iff]; simp only [g]; omega
          clear g
          go_wp2_with fail
          go_ret
          exact ⟨by rw [HX.out, HT.out]; rfl, _, rfl⟩
        · have g1 : ((s[i].toNat : Int) == c.toNat) = false := by rw [beq_eq_false_iff_ne]; intro h; exact g (byte_inj (by omega))
          have HT : Hid (inP (s[i], s[i]) c = false) := by show _ = _; rw [← Bool.not_eq_true, inP_iff]; intro h; exact g (byte_inj (by dsimp only at h; omega))
          clear g
          go_wp2_with fail
          go_roundw
          case rel => exact ⟨i + 1, by omega, by go_num, by show _ = _; rw [HX.out, HT.out]; rfl, _, rfl⟩
          case measure => simp [intOf]; omega
    · obtain rfl : i = s.length := by omega
      go_wp2
      go_ret
      exact ⟨by rw [HP.out, List.drop_length]; rfl, _, rfl⟩
end Go.Proofs.YtjgdfgpnmmkjfaaGreatDoor
