/- NamesPaths: the walks of package names: colons, bared, Parts. -/
import Derived.Test.YtjgdfgpnmmkjfaaGreatDoorNBase
import Derived.Test.YtjgdfgpnmmkjfaaGreatDoorNPlain
import Derived.Test.YtjgdfgpnmmkjfaaGreatDoorShelf
namespace Go.Proofs.YtjgdfgpnmmkjfaaGreatDoor
set_option linter.unusedVariables false
set_option linter.unusedSimpArgs false
open Go.RowKit

theorem trim_col : ∀ s : Bs, Lib.trimLeftB s 58 = s.drop (col s)
  | [] => rfl
  | c :: r => by
    have h := trim_col r
    unfold Lib.trimLeftB at h ⊢
    rw [List.dropWhile_cons, col]
    by_cases hc : c = 58
    · rw [if_pos hc, if_pos (by simp [hc]), h]; rfl
    · rw [if_neg hc, if_neg (by simp [hc])]; rfl
theorem trimR_len (s : Bs) : (Lib.trimRightB s 58).length + col s.reverse = s.length := by
  have h := trim_col s.reverse
  unfold Lib.trimLeftB at h
  unfold Lib.trimRightB
  rw [List.length_reverse, h, List.length_drop, List.length_reverse]
  have := col_le s.reverse
  rw [List.length_reverse] at this
  omega
theorem col_one : ∀ r : Bs, col r = 1 ↔ (r.head? = some 58 ∧ r.tail.head? ≠ some 58)
  | [] => by simp [col]
  | [c] => by simp [col]
  | c :: d :: r => by
    simp only [col, List.head?_cons, List.tail_cons]
    by_cases hc : c = 58 <;> by_cases hd : d = 58 <;> simp [hc, hd]
theorem bareR_col (s : Bs) : bareR s = if col s.reverse = 1 then s.take (s.length - 1) else s := by
  unfold bareR
  rw [← List.dropLast_eq_take]
  have h := col_one s.reverse
  rw [List.head?_reverse, List.tail_reverse, List.head?_reverse] at h
  by_cases h1 : col s.reverse = 1
  · rw [if_pos h1, if_pos (h.1 h1)]
  · rw [if_neg h1, if_neg (fun e => h1 (h.2 e))]
theorem colons_any (s : Bs) (hs : s.length ≤ 1000000) (w : World) : Calls Tryz.prog 64 #[.string ⟨s.toArray⟩] w fun e w' => e = .returned (.int .i64 (col s : Int)) ∧ w = w' := by
  obtain ⟨u, hu⟩ : ∃ u, u = s.drop (col s) := ⟨_, rfl⟩
  have hul : u.length + col s = s.length := by rw [hu, List.length_drop]; have := col_le s; omega
  have TL : Hid (∀ W, Calls Tryz.prog 94 #[.string ⟨s.toArray⟩, .string ⟨#[58]⟩] W fun e w' => e = .returned (.string ⟨u.toArray⟩) ∧ W = w') := fun W => by
    have h := Tryz.strings_TrimLeft_one ⟨s.toArray⟩ 58 (by decide) W
    rw [show Lib.trimLeftB (⟨s.toArray⟩ : ByteArray).data.toList 58 = u by rw [hu]; exact trim_col s] at h
    exact h.mono fun e w' ⟨h1, h2⟩ => ⟨h1, h2.symm⟩
  clear hu
  generalize col s = n at *
  have hw : IntKind.i64.wrap ((s.length : Int) - (u.length : Int)) = (n : Int) := by rw [IntWalk.i64_in _ (by omega)]; omega
  go_enter Tryz.func64, Tryz.ntmps64
  go_wp2_with (go_at_call 94; refine (TL.out _).mono ?_; rintro e w1 ⟨rfl, rfl⟩)
  go_ret
  exact ⟨ret_int (by omega), rfl⟩
set_option maxHeartbeats 1600000 in
theorem bared_any (s : Bs) (hs : s.length ≤ 1000000) (w : World) : Calls Tryz.prog 65 #[.string ⟨s.toArray⟩] w fun e w' => e = .returned (.string ⟨(bareR (bareL s)).toArray⟩) ∧ w = w' := by
  have CO : Hid (∀ W, Calls Tryz.prog 64 #[.string ⟨s.toArray⟩] W fun e w' => e = .returned (.int .i64 (col s : Int)) ∧ W = w') := fun W => colons_any s hs W
  have hcl := col_le s
  obtain ⟨t, ht⟩ : ∃ t, t = bareL s := ⟨_, rfl⟩
  have htl : t.length ≤ 1000000 := by rw [ht]; unfold bareL; split; (rw [List.length_drop]; omega); omega
  have hRl := trimR_len t
  obtain ⟨u, hu⟩ : ∃ u, u = Lib.trimRightB t 58 := ⟨_, rfl⟩
  rw [← hu] at hRl
  have TR : Hid (∀ W, Calls Tryz.prog 95 #[.string ⟨t.toArray⟩, .string ⟨#[58]⟩] W fun e w' => e = .returned (.string ⟨u.toArray⟩) ∧ W = w') := fun W => by
    have h := Tryz.strings_TrimRight_one ⟨t.toArray⟩ 58 (by decide) W (show t.length ≤ _ from by omega)
    rw [show Lib.trimRightB (⟨t.toArray⟩ : ByteArray).data.toList 58 = u from hu.symm] at h
    exact h.mono fun e w' ⟨h1, h2⟩ => ⟨h1, h2.symm⟩
  rw [← ht, bareR_col]
  generalize col t.reverse = m at *
  have hRes : Hid ((if m = 1 then t.take (t.length - 1) else t) = bareR (bareL s) ∨ True) := .inr trivial
  by_cases h1 : col s = 1
  · have hs2 : s = 58 :: t := by
      cases s with
      | nil => simp [col] at h1
      | cons c r =>
        have hc : c = 58 := by
          rcases Classical.em (c = 58) with h | h
          · exact h
          · rw [col, if_neg h] at h1; cases h1
        rw [ht]; unfold bareL; rw [if_pos h1, hc]; rfl
    rw [h1] at CO hcl
    subst hs2
    clear ht h1 hu hRes
    by_cases h2 : m = 1
    · rw [if_pos h2]
      subst h2
      have hw : IntKind.i64.wrap ((t.length : Int) - (u.length : Int)) = 1 := by rw [IntWalk.i64_in _ (by omega)]; omega
      go_enter Tryz.func65, Tryz.ntmps65
      go_wp2_with (first | (go_at_call 64; refine (CO.out _).mono ?_; rintro e w1 ⟨rfl, rfl⟩) | (go_at_call 95; refine (TR.out _).mono ?_; rintro e w2 ⟨rfl, rfl⟩))
      go_ret
      exact ⟨rfl, rfl⟩
    · rw [if_neg h2]
      have h3 : ((t.length : Int) - (u.length : Int) == 1) = false := by rw [beq_eq_false_iff_ne]; omega
      go_enter Tryz.func65, Tryz.ntmps65
      go_wp2_with (first | (go_at_call 64; refine (CO.out _).mono ?_; rintro e w1 ⟨rfl, rfl⟩) | (go_at_call 95; refine (TR.out _).mono ?_; rintro e w2 ⟨rfl, rfl⟩))
      go_ret
      exact ⟨rfl, rfl⟩
  · have ht2 : t = s := by rw [ht]; unfold bareL; rw [if_neg h1]
    have h1' : ((col s : Int) == 1) = false := by rw [beq_eq_false_iff_ne]; omega
    subst ht2
    clear ht hu hRes
    generalize col t = k at *
    by_cases h2 : m = 1
    · rw [if_pos h2]
      subst h2
      have hw : IntKind.i64.wrap ((t.length : Int) - (u.length : Int)) = 1 := by rw [IntWalk.i64_in _ (by omega)]; omega
      go_enter Tryz.func65, Tryz.ntmps65
      go_wp2_with (first | (go_at_call 64; refine (CO.out _).mono ?_; rintro e w1 ⟨rfl, rfl⟩) | (go_at_call 95; refine (TR.out _).mono ?_; rintro e w2 ⟨rfl, rfl⟩))
      go_ret
      exact ⟨rfl, rfl⟩
    · rw [if_neg h2]
      have h3 : ((t.length : Int) - (u.length : Int) == 1) = false := by rw [beq_eq_false_iff_ne]; omega
      go_enter Tryz.func65, Tryz.ntmps65
      go_wp2_with (first | (go_at_call 64; refine (CO.out _).mono ?_; rintro e w1 ⟨rfl, rfl⟩) | (go_at_call 95; refine (TR.out _).mono ?_; rintro e w2 ⟨rfl, rfl⟩))
      go_ret
      exact ⟨rfl, rfl⟩
end Go.Proofs.YtjgdfgpnmmkjfaaGreatDoor
