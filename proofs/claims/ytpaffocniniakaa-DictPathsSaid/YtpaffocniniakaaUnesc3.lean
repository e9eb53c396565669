/- 'Unescape' of threadbareref01. -/
import Derived.Test.YtpaffocniniakaaUnesc2
namespace Go.Proofs.Ytpaffocniniakaa
set_option linter.unusedVariables false
set_option linter.unusedSimpArgs false
open Go.RowKit

def escR (d : Int) : Int := if d = 97 then 0 else if d = 98 then 1 else if d = 102 then 2 else if d = 110 then 3 else if d = 114 then 4 else if d = 116 then 5 else if d = 118 then 6 else -1
theorem first_esc (c : UInt8) : firstI [c] [97, 98, 102, 110, 114, 116, 118] 0 = escR (c.toNat : Int) := by
  by_cases h1 : c = 97
  · subst h1; decide
  by_cases h2 : c = 98
  · subst h2; decide
  by_cases h3 : c = 102
  · subst h3; decide
  by_cases h4 : c = 110
  · subst h4; decide
  by_cases h5 : c = 114
  · subst h5; decide
  by_cases h6 : c = 116
  · subst h6; decide
  by_cases h7 : c = 118
  · subst h7; decide
  have hn : ∀ (x : UInt8) (y : Int), (x.toNat : Int) = y → c ≠ x → ¬ ((c.toNat : Int) = y) := fun x y hy h e => h (byte_inj (by omega))
  unfold escR
  rw [if_neg (hn 97 97 rfl h1), if_neg (hn 98 98 rfl h2), if_neg (hn 102 102 rfl h3), if_neg (hn 110 110 rfl h4), if_neg (hn 114 114 rfl h5), if_neg (hn 116 116 rfl h6), if_neg (hn 118 118 rfl h7)]
  unfold firstI
  rcases fstG_spec (fun (i : Nat) => !([c] : Bs).isEmpty && decide ((0 : Int) ≤ i) && stB [c] [97, 98, 102, 110, 114, 116, 118] i) ([97, 98, 102, 110, 114, 116, 118] : Bs).length 0 with ⟨h, _⟩ | ⟨k, _, _, hk, hP, _⟩
  · exact h
  · exfalso
    simp only [List.length_cons, List.length_nil] at hk
    simp only [Bool.and_eq_true, stB, beq_iff_eq] at hP
    have hP2 := hP.2
    rcases (by omega : k = 0 ∨ k = 1 ∨ k = 2 ∨ k = 3 ∨ k = 4 ∨ k = 5 ∨ k = 6) with rfl | rfl | rfl | rfl | rfl | rfl | rfl
    · exact h1 (by simpa using hP2.symm)
    · exact h2 (by simpa using hP2.symm)
    · exact h3 (by simpa using hP2.symm)
    · exact h4 (by simpa using hP2.symm)
    · exact h5 (by simpa using hP2.symm)
    · exact h6 (by simpa using hP2.symm)
    · exact h7 (by simpa using hP2.symm)
theorem escR_law (d : Int) : (escR d = -1 ∧ ¬ (0 : Int) ≤ escI d) ∨ ∃ j : Nat, escR d = j ∧ j ≤ 6 ∧ (0 : Int) ≤ escI d ∧ (([7, 8, 12, 10, 13, 9, 11] : Bs).drop j).take 1 = [byteI ((7 : Int) + escI d)] := by
  unfold escR
  split
  · rename_i h; subst h; exact .inr ⟨0, rfl, by decide, by decide, by decide⟩
  split
  · rename_i h; subst h; exact .inr ⟨1, rfl, by decide, by decide, by decide⟩
  split
  · rename_i h; subst h; exact .inr ⟨2, rfl, by decide, by decide, by decide⟩
  split
  · rename_i h; subst h; exact .inr ⟨3, rfl, by decide, by decide, by decide⟩
  split
  · rename_i h; subst h; exact .inr ⟨4, rfl, by decide, by decide, by decide⟩
  split
  · rename_i h; subst h; exact .inr ⟨5, rfl, by decide, by decide, by decide⟩
  split
  · rename_i h; subst h; exact .inr ⟨6, rfl, by decide, by decide, by decide⟩
  · refine .inl ⟨rfl, ?_⟩
    unfold escI
    repeat' split
    all_goals omega

set_option maxRecDepth 100000 in
set_option maxHeartbeats 3200000 in
theorem rUnescape_any (s : Bs) (hs : s.length ≤ 1000000) (w : World) :
    Calls Try.prog 75 #[.string ⟨s.toArray⟩] w fun e w' => e = .returned (.tuple #[.string ⟨(unesc s).1.toArray⟩, .int .i64 ((unesc s).2 : Int)]) ∧ Below w.heap.size w w' := by
  by_cases h0 : s = []
  · subst h0
    go_enter Try.func75, Try.ntmps75
    go_wp2_with fail
    go_ret2
    exact ⟨rfl, Below.refl _ _⟩
  have hl : 0 < s.length := List.length_pos_iff.2 h0
  have he : s.isEmpty = false := by cases s with | nil => exact absurd rfl h0 | cons _ _ => rfl
  by_cases hc : (s[0].toNat : Int) = 92
  rotate_left
  · have HU := Lib.hid (unesc_no hl hc)
    have t1 : ((s[0].toNat : Int) != 92) = true := by simpa using hc
    go_enter Try.func75, Try.ntmps75
    go_wp2_with fail
    go_ret2
    exact ⟨by rw [HU.out]; rfl, Below.refl _ _⟩
  by_cases h1 : s.length = 1
  · have HU := Lib.hid (unesc_one hl hc h1)
    have t2 : ((s.length : Int) == 1) = true := by rw [beq_iff_eq]; omega
    go_enter Try.func75, Try.ntmps75
    go_wp2_with fail
    go_ret2
    exact ⟨by rw [HU.out]; rfl, Below.refl _ _⟩
  have hl2 : 1 < s.length := by omega
  have t2 : ((s.length : Int) == 1) = false := by rw [beq_eq_false_iff_ne]; omega
  have hlI : (2 : Int) ≤ (s.length : Int) := by omega
  have hlI1 : (1 : Int) ≤ (s.length : Int) := by omega
  have hlN : 2 ≤ s.length := by omega
  have HU := Lib.hid (unesc_two hl2 hc)
  have HT := Lib.hid (take_one hl2)
  have HF : Hid (∀ W, Calls Try.prog 84 #[.string ⟨(s.tail.take 1).toArray⟩, .string ⟨[97, 98, 102, 110, 114, 116, 118].toArray⟩, .int .i64 0] W fun e w' => e = .returned (.int .i64 (escR (s[1].toNat : Int))) ∧ W = w') := by
    intro W
    have h := rFirst_any [s[1]] [97, 98, 102, 110, 114, 116, 118] 0 (by simp) (by simp) W
    rw [first_esc] at h
    rw [take_one hl2]
    exact h
  have h255 := byte_lt s[1]
  have h000 : (0 : Int) ≤ (s[1].toNat : Int) := by omega
  rcases escR_law (s[1].toNat : Int) with ⟨hr, e1⟩ | ⟨j, hj, hj6, e1, hbyte⟩
  rotate_left
  · have HV := Lib.hid (unesc1_esc (s := s) e1)
    rw [hj] at HF
    have HB := Lib.hid hbyte
    have t3 : decide ((0 : Int) ≤ (j : Int)) = true := by simp
    have t4 : (j : Int) + 1 ≤ 7 := by omega
    have t5 : j + 1 ≤ 7 := by omega
    clear hj hbyte e1
    go_enter Try.func75, Try.ntmps75
    go_wp2_with (go_at_call 84; refine (HF.out _).mono ?_; rintro e w' ⟨rfl, rfl⟩)
    go_ret2
    exact ⟨by rw [HU.out, HV.out, ← HB.out]; simp, Below.refl _ _⟩
  rw [hr] at HF
  clear hr
  by_cases hn : s[1].toNat = 10
  · have HV := Lib.hid (unesc1_nl hl2 hn)
    have t7 : ((s[1].toNat : Int) == 10) = true := by rw [beq_iff_eq]; omega
    clear hn e1
    go_enter Try.func75, Try.ntmps75
    go_wp2_with (go_at_call 84; refine (HF.out _).mono ?_; rintro e w' ⟨rfl, rfl⟩)
    go_loop [3] (fun n => ∃ k : Nat, 2 ≤ k ∧ k ≤ s.length ∧ n = .int .i64 k ∧ Hid (2 + ((s.drop 2).takeWhile isBl).length = k + ((s.drop k).takeWhile isBl).length)) (fun n => s.length - (intOf n).toNat)
    case atStart => exact ⟨2, Nat.le_refl _, hlN, rfl, rfl⟩
    case round =>
      obtain ⟨k, hk2, hk, rfl, H⟩ := hrel
      by_cases hlt : k < s.length
      · have hlt1 : decide ((k : Int) < (s.length : Int)) = true := by rw [decide_eq_true_eq]; omega
        have h255k := byte_lt s[k]
        have HB : Hid (isBl s[k] = ((s[k].toNat : Int) == 32 || (s[k].toNat : Int) == 9)) := rfl
        by_cases q1 : ((s[k].toNat : Int) == 32) = true
        · have HN : Hid (2 + ((s.drop 2).takeWhile isBl).length = (k + 1) + ((s.drop (k + 1)).takeWhile isBl).length) := by
            show _ = _
            rw [H.out, tw_in hlt (by rw [HB.out, q1]; rfl)]; omega
          clear H HB
          go_wp2_with fail
          go_round
          case rel => exact ⟨k + 1, by omega, by omega, by go_num, HN⟩
          case measure => simp [intOf]; omega
        · have q1f : ((s[k].toNat : Int) == 32) = false := by simpa using q1
          by_cases q2 : ((s[k].toNat : Int) == 9) = true
          · have HN : Hid (2 + ((s.drop 2).takeWhile isBl).length = (k + 1) + ((s.drop (k + 1)).takeWhile isBl).length) := by
              show _ = _
              rw [H.out, tw_in hlt (by rw [HB.out, q2, Bool.or_true])]; omega
            clear H HB q1
            go_wp2_with fail
            go_round
            case rel => exact ⟨k + 1, by omega, by omega, by go_num, HN⟩
            case measure => simp [intOf]; omega
          · have q2f : ((s[k].toNat : Int) == 9) = false := by simpa using q2
            have HN : Hid (2 + ((s.drop 2).takeWhile isBl).length = k) := by
              show _ = _
              rw [H.out, tw_out hlt (by rw [HB.out, q1f, q2f]; rfl)]; omega
            clear H HB q1 q2
            go_wp2_with fail
            go_ret2
            exact ⟨by rw [HU.out, HV.out, HN.out]; rfl, Below.refl _ _⟩
      · have hlt1 : decide ((k : Int) < (s.length : Int)) = false := by rw [decide_eq_false_iff_not]; omega
        have HN : Hid (2 + ((s.drop 2).takeWhile isBl).length = k) := by
          show _ = _
          rw [H.out, List.drop_eq_nil_of_le (by omega)]; rfl
        clear H
        go_wp2_with fail
        go_ret2
        exact ⟨by rw [HU.out, HV.out, HN.out]; rfl, Below.refl _ _⟩
  have t7 : ((s[1].toNat : Int) == 10) = false := by rw [beq_eq_false_iff_ne]; omega
  by_cases hx : s[1].toNat = 120
  · have t8 : ((s[1].toNat : Int) == 120) = true := by rw [beq_iff_eq]; omega
    have HVY : Hid (0 < (digF 16 2 (s.drop 2) 0).2 → unesc1 s[1] s = ([byteI (digF 16 2 (s.drop 2) 0).1], 2 + (digF 16 2 (s.drop 2) 0).2)) := fun h => unesc1_hex hl2 hx h
    have HVN : Hid (¬ 0 < (digF 16 2 (s.drop 2) 0).2 → unesc1 s[1] s = ([s[1]], 2)) := fun h => unesc1_x hl2 hx h
    clear hx hn e1
    go_enter Try.func75, Try.ntmps75
    go_wp2_with (go_at_call 84; refine (HF.out _).mono ?_; rintro e w' ⟨rfl, rfl⟩)
    go_loop [3, 8] (fun n v => ∃ (k j acc : Nat), j + 2 = k ∧ k ≤ s.length ∧ j ≤ 2 ∧ n = .int .i64 (k : Int) ∧ v = .int .i64 (acc : Int) ∧ acc < 4096 ∧ (j = 2 → acc < 256) ∧ (j = 1 → acc < 16) ∧ (j = 0 → acc = 0) ∧ Hid (digF 16 2 (s.drop 2) 0 = ((digF 16 (2 - j) (s.drop k) (acc : Int)).1, (digF 16 (2 - j) (s.drop k) (acc : Int)).2 + j))) (fun n _ => s.length - (intOf n).toNat)
    case atStart => exact ⟨2, 0, 0, rfl, by omega, by omega, rfl, rfl, by omega, by omega, by omega, by omega, by simp [Hid]⟩
    case round =>
      obtain ⟨k, j, acc, hk, hj1, hj2, rfl, rfl, ha1, ha2, ha3, ha4, H⟩ := hrel
      have hwr : IntKind.u8.wrap ((acc : Int) % 256) = ((byteI (acc : Int)).toNat : Int) := by rw [byteI_toNat _ (by omega)]; simp [IntKind.wrap, IntKind.bits, IntKind.signed]
      have hone := one_byte ((byteI (acc : Int)).toNat : Int) (by omega) (byte_lt _) 5 w
      have HEND : Hid ((digF 16 (2 - j) (s.drop k) (acc : Int)) = ((acc : Int), 0) → unesc1 s[1] s = if j = 0 then ([s[1]], 2) else ([byteI (acc : Int)], k)) := by
        intro h
        have h2 := H.out
        rw [h] at h2
        by_cases h0 : j = 0
        · rw [if_pos h0]
          exact HVN.out (by rw [h2]; simp [h0])
        · rw [if_neg h0, HVY.out (by rw [h2]; simp; omega), h2, ← hk]
          simp [Nat.add_comm]
      by_cases hlt : k < s.length ∧ j < 2
      · obtain ⟨hkl, hjm⟩ := hlt
        have t9 : decide ((k : Int) < (s.length : Int)) = true := by rw [decide_eq_true_eq]; omega
        have t10 : decide ((k : Int) < 4) = true := by rw [decide_eq_true_eq]; omega
        have h255k := byte_lt s[k]
        have h000k : (0 : Int) ≤ (s[k].toNat : Int) := by omega
        have HC := fun W => Lib.hid (rdigit_any _ 16 h000k h255k (by omega) (by omega) W)
        have hn0 := digI_nn (s[k].toNat : Int)
        have hx0 := digI_le (s[k].toNat : Int)
        have HI : Hid (digI (s[k].toNat : Int) < 16 → digF 16 2 (s.drop 2) 0 = ((digF 16 (2 - (j + 1)) (s.drop (k + 1)) ((acc : Int) * 16 + digI (s[k].toNat : Int))).1, (digF 16 (2 - (j + 1)) (s.drop (k + 1)) ((acc : Int) * 16 + digI (s[k].toNat : Int))).2 + (j + 1))) := by
          intro hd
          rw [H.out, show 2 - j = (2 - (j + 1)) + 1 from by omega, digF_in 16 _ hkl hd]
          congr 1; omega
        have HO : Hid (¬ digI (s[k].toNat : Int) < 16 → digF 16 (2 - j) (s.drop k) (acc : Int) = ((acc : Int), 0)) := fun hd => digF_out 16 _ hkl hd
        generalize hdg : digI (s[k].toNat : Int) = d at *
        clear H hdg
        by_cases hd : d < 16
        · have HI2 := Lib.hid (HI.out hd)
          obtain ⟨dn, rfl⟩ : ∃ dn : Nat, d = dn := ⟨d.toNat, by omega⟩
          have HC2 := fun W => Lib.hid (HC W).out
          simp only [if_pos hd] at HC2
          have t11 : decide ((0 : Int) ≤ (dn : Int)) = true := by simp
          clear HI HO HC HEND hwr hone
          go_wp2_with (go_at_call 85; refine (HC2 _).out.mono ?_; rintro e w' ⟨rfl, rfl⟩)
          go_round
          case rel => exact ⟨k + 1, j + 1, acc * 16 + dn, by omega, by omega, by omega, by go_num, by go_num, by omega, by omega, by omega, by omega, by show _ = _; rw [HI2.out]; simp⟩
          case measure => simp [intOf]; omega
        · have HO2 := Lib.hid (HO.out hd)
          have HC2 := fun W => Lib.hid (HC W).out
          simp only [if_neg hd] at HC2
          have HE2 := Lib.hid (HEND.out HO2.out)
          clear HI HO HC HEND
          by_cases hj0 : j = 0
          · rw [if_pos hj0] at HE2
            have t12 : ((k : Int) == 2) = true := by rw [beq_iff_eq]; omega
            clear hwr hone
            go_wp2_with (go_at_call 85; refine (HC2 _).out.mono ?_; rintro e w' ⟨rfl, rfl⟩)
            go_ret2
            exact ⟨by rw [HU.out, HE2.out, ← HT.out]; rfl, Below.refl _ _⟩
          · rw [if_neg hj0] at HE2
            have t12 : ((k : Int) == 2) = false := by rw [beq_eq_false_iff_ne]; omega
            go_wp2_with (go_at_call 85; refine (HC2 _).out.mono ?_; rintro e w' ⟨rfl, rfl⟩)
            go_ret2
            exact ⟨by rw [HU.out, HE2.out, byteI_id]; rfl, (Below.refl _ _).alloc (Nat.le_refl _) _⟩
      · have HE2 := Lib.hid (HEND.out (digF_end 16 _ (by omega)))
        have hcond : (k < s.length ∧ decide ((k : Int) < (s.length : Int)) = true ∧ decide ((k : Int) < 4) = false) ∨ (decide ((k : Int) < (s.length : Int)) = false) := by
          by_cases hkl : k < s.length
          · left; exact ⟨hkl, by rw [decide_eq_true_eq]; omega, by rw [decide_eq_false_iff_not]; omega⟩
          · right; rw [decide_eq_false_iff_not]; omega
        clear HEND
        by_cases hj0 : j = 0
        · rw [if_pos hj0] at HE2
          have t12 : ((k : Int) == 2) = true := by rw [beq_iff_eq]; omega
          clear hwr hone
          rcases hcond with ⟨hkl, t9, t10⟩ | t9
          · go_wp2_with fail
            all_goals (go_ret2; exact ⟨by rw [HU.out, HE2.out, ← HT.out]; rfl, Below.refl _ _⟩)
          · go_wp2_with fail
            all_goals (go_ret2; exact ⟨by rw [HU.out, HE2.out, ← HT.out]; rfl, Below.refl _ _⟩)
        · rw [if_neg hj0] at HE2
          have t12 : ((k : Int) == 2) = false := by rw [beq_eq_false_iff_ne]; omega
          rcases hcond with ⟨hkl, t9, t10⟩ | t9
          · go_wp2_with fail
            all_goals (go_ret2; exact ⟨by rw [HU.out, HE2.out, byteI_id]; rfl, (Below.refl _ _).alloc (Nat.le_refl _) _⟩)
          · go_wp2_with fail
            all_goals (go_ret2; exact ⟨by rw [HU.out, HE2.out, byteI_id]; rfl, (Below.refl _ _).alloc (Nat.le_refl _) _⟩)
  · have t8 : ((s[1].toNat : Int) == 120) = false := by rw [beq_eq_false_iff_ne]; omega
    have HVY : Hid (0 < (digF 8 3 (s.drop 1) 0).2 → unesc1 s[1] s = ([byteI (digF 8 3 (s.drop 1) 0).1], 1 + (digF 8 3 (s.drop 1) 0).2)) := fun h => unesc1_oct hl2 e1 hx h
    have HVN : Hid (¬ 0 < (digF 8 3 (s.drop 1) 0).2 → unesc1 s[1] s = ([s[1]], 2)) := fun h => unesc1_else hl2 e1 hx h hn
    clear hx hn e1
    go_enter Try.func75, Try.ntmps75
    go_wp2_with (go_at_call 84; refine (HF.out _).mono ?_; rintro e w' ⟨rfl, rfl⟩)
    go_loop [3, 8] (fun n v => ∃ (k j acc : Nat), j + 1 = k ∧ k ≤ s.length ∧ j ≤ 3 ∧ n = .int .i64 (k : Int) ∧ v = .int .i64 (acc : Int) ∧ acc < 4096 ∧ (j = 2 → acc < 256) ∧ (j = 1 → acc < 16) ∧ (j = 0 → acc = 0) ∧ Hid (digF 8 3 (s.drop 1) 0 = ((digF 8 (3 - j) (s.drop k) (acc : Int)).1, (digF 8 (3 - j) (s.drop k) (acc : Int)).2 + j))) (fun n _ => s.length - (intOf n).toNat)
    case atStart => exact ⟨1, 0, 0, rfl, by omega, by omega, rfl, rfl, by omega, by omega, by omega, by omega, by simp [Hid]⟩
    case round =>
      obtain ⟨k, j, acc, hk, hj1, hj2, rfl, rfl, ha1, ha2, ha3, ha4, H⟩ := hrel
      have hwr : IntKind.u8.wrap ((acc : Int) % 256) = ((byteI (acc : Int)).toNat : Int) := by rw [byteI_toNat _ (by omega)]; simp [IntKind.wrap, IntKind.bits, IntKind.signed]
      have hone := one_byte ((byteI (acc : Int)).toNat : Int) (by omega) (byte_lt _) 5 w
      have HEND : Hid ((digF 8 (3 - j) (s.drop k) (acc : Int)) = ((acc : Int), 0) → unesc1 s[1] s = if j = 0 then ([s[1]], 2) else ([byteI (acc : Int)], k)) := by
        intro h
        have h2 := H.out
        rw [h] at h2
        by_cases h0 : j = 0
        · rw [if_pos h0]
          exact HVN.out (by rw [h2]; simp [h0])
        · rw [if_neg h0, HVY.out (by rw [h2]; simp; omega), h2, ← hk]
          simp [Nat.add_comm]
      by_cases hlt : k < s.length ∧ j < 3
      · obtain ⟨hkl, hjm⟩ := hlt
        have t9 : decide ((k : Int) < (s.length : Int)) = true := by rw [decide_eq_true_eq]; omega
        have t10 : decide ((k : Int) < 4) = true := by rw [decide_eq_true_eq]; omega
        have h255k := byte_lt s[k]
        have h000k : (0 : Int) ≤ (s[k].toNat : Int) := by omega
        have HC := fun W => Lib.hid (rdigit_any _ 8 h000k h255k (by omega) (by omega) W)
        have hn0 := digI_nn (s[k].toNat : Int)
        have hx0 := digI_le (s[k].toNat : Int)
        have HI : Hid (digI (s[k].toNat : Int) < 8 → digF 8 3 (s.drop 1) 0 = ((digF 8 (3 - (j + 1)) (s.drop (k + 1)) ((acc : Int) * 8 + digI (s[k].toNat : Int))).1, (digF 8 (3 - (j + 1)) (s.drop (k + 1)) ((acc : Int) * 8 + digI (s[k].toNat : Int))).2 + (j + 1))) := by
          intro hd
          rw [H.out, show 3 - j = (3 - (j + 1)) + 1 from by omega, digF_in 8 _ hkl hd]
          congr 1; omega
        have HO : Hid (¬ digI (s[k].toNat : Int) < 8 → digF 8 (3 - j) (s.drop k) (acc : Int) = ((acc : Int), 0)) := fun hd => digF_out 8 _ hkl hd
        generalize hdg : digI (s[k].toNat : Int) = d at *
        clear H hdg
        by_cases hd : d < 8
        · have HI2 := Lib.hid (HI.out hd)
          obtain ⟨dn, rfl⟩ : ∃ dn : Nat, d = dn := ⟨d.toNat, by omega⟩
          have HC2 := fun W => Lib.hid (HC W).out
          simp only [if_pos hd] at HC2
          have t11 : decide ((0 : Int) ≤ (dn : Int)) = true := by simp
          clear HI HO HC HEND hwr hone
          go_wp2_with (go_at_call 85; refine (HC2 _).out.mono ?_; rintro e w' ⟨rfl, rfl⟩)
          go_round
          case rel => exact ⟨k + 1, j + 1, acc * 8 + dn, by omega, by omega, by omega, by go_num, by go_num, by omega, by omega, by omega, by omega, by show _ = _; rw [HI2.out]; simp⟩
          case measure => simp [intOf]; omega
        · have HO2 := Lib.hid (HO.out hd)
          have HC2 := fun W => Lib.hid (HC W).out
          simp only [if_neg hd] at HC2
          have HE2 := Lib.hid (HEND.out HO2.out)
          clear HI HO HC HEND
          by_cases hj0 : j = 0
          · rw [if_pos hj0] at HE2
            have t12 : ((k : Int) == 1) = true := by rw [beq_iff_eq]; omega
            clear hwr hone
            go_wp2_with (go_at_call 85; refine (HC2 _).out.mono ?_; rintro e w' ⟨rfl, rfl⟩)
            go_ret2
            exact ⟨by rw [HU.out, HE2.out, ← HT.out]; rfl, Below.refl _ _⟩
          · rw [if_neg hj0] at HE2
            have t12 : ((k : Int) == 1) = false := by rw [beq_eq_false_iff_ne]; omega
            go_wp2_with (go_at_call 85; refine (HC2 _).out.mono ?_; rintro e w' ⟨rfl, rfl⟩)
            go_ret2
            exact ⟨by rw [HU.out, HE2.out, byteI_id]; rfl, (Below.refl _ _).alloc (Nat.le_refl _) _⟩
      · have HE2 := Lib.hid (HEND.out (digF_end 8 _ (by omega)))
        have hcond : (k < s.length ∧ decide ((k : Int) < (s.length : Int)) = true ∧ decide ((k : Int) < 4) = false) ∨ (decide ((k : Int) < (s.length : Int)) = false) := by
          by_cases hkl : k < s.length
          · left; exact ⟨hkl, by rw [decide_eq_true_eq]; omega, by rw [decide_eq_false_iff_not]; omega⟩
          · right; rw [decide_eq_false_iff_not]; omega
        clear HEND
        by_cases hj0 : j = 0
        · rw [if_pos hj0] at HE2
          have t12 : ((k : Int) == 1) = true := by rw [beq_iff_eq]; omega
          clear hwr hone
          rcases hcond with ⟨hkl, t9, t10⟩ | t9
          · go_wp2_with fail
            all_goals (go_ret2; exact ⟨by rw [HU.out, HE2.out, ← HT.out]; rfl, Below.refl _ _⟩)
          · go_wp2_with fail
            all_goals (go_ret2; exact ⟨by rw [HU.out, HE2.out, ← HT.out]; rfl, Below.refl _ _⟩)
        · rw [if_neg hj0] at HE2
          have t12 : ((k : Int) == 1) = false := by rw [beq_eq_false_iff_ne]; omega
          rcases hcond with ⟨hkl, t9, t10⟩ | t9
          · go_wp2_with fail
            all_goals (go_ret2; exact ⟨by rw [HU.out, HE2.out, byteI_id]; rfl, (Below.refl _ _).alloc (Nat.le_refl _) _⟩)
          · go_wp2_with fail
            all_goals (go_ret2; exact ⟨by rw [HU.out, HE2.out, byteI_id]; rfl, (Below.refl _ _).alloc (Nat.le_refl _) _⟩)
end Go.Proofs.Ytpaffocniniakaa
