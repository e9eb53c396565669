/- The reader of scripts: parted, ended, closed, blanks. -/
import Derived.Test.YteojlmpipfajoaaGreatDoorTwR
namespace Go.Proofs.YteojlmpipfajoaaGreatDoor
set_option linter.unusedVariables false
set_option linter.unusedSimpArgs false
open Go.RowKit
section
variable {rb i : Nat} {s : Bs}
/-- Quiet, with a truth. -/
def QB (v : Bool) (w : World) : Ending → World → Prop := fun e w' => e = .returned (.bool v) ∧ ∃ m, w' = w.drewN m
theorem parted_end {w : World} (h : Rd w rb s s.length) : Calls Tryz.prog 48 #[.pointer (some ⟨rb, 0, none⟩), .bool false] w (QB true w) := by
  have EN := Lib.hid (fun n => end_yes (h.drewN n))
  obtain ⟨c0, c1, -, -, -, -⟩ := h.f
  clear h
  go_enter Tryz.func48, Tryz.ntmps48
  go_wp2_with fail
  go_quiet ((go_at_call 47; exact Calls.quiet_of (EN.out _)))
  go_wp2_with fail
  go_ret
  exact ⟨rfl, _, rfl⟩
theorem parted_no {w : World} (h : Rd w rb s i) (hi : i < s.length) (h1 : s[i] ≠ 10) (h2 : s[i] ≠ 59) : Calls Tryz.prog 48 #[.pointer (some ⟨rb, 0, none⟩), .bool false] w (QB false w) := by
  have EN := Lib.hid (fun n => end_no (h.drewN n) hi)
  obtain ⟨c0, c1, -, -, -, -⟩ := h.f
  have hlt : (i : Int) < (s.length : Int) := by omega
  have h0 : (0 : Int) ≤ (i : Int) := by omega
  have t1 : ((s[i].toNat : Int) == 10) = false := by rw [beq_eq_false_iff_ne]; intro e; exact h1 (UInt8.toNat_inj.1 (by simpa using (by exact_mod_cast e : s[i].toNat = 10)))
  have t2 : ((s[i].toNat : Int) == 59) = false := by rw [beq_eq_false_iff_ne]; intro e; exact h2 (UInt8.toNat_inj.1 (by simpa using (by exact_mod_cast e : s[i].toNat = 59)))
  clear h h1 h2
  go_enter Tryz.func48, Tryz.ntmps48
  go_wp2_with fail
  go_quiet ((go_at_call 47; exact Calls.quiet_of (EN.out _)))
  go_wp2_with fail
  go_ret
  exact ⟨rfl, _, rfl⟩
theorem parted_yes {w : World} (h : Rd w rb s i) (hi : i < s.length) (h1 : s[i] = 10 ∨ s[i] = 59) : Calls Tryz.prog 48 #[.pointer (some ⟨rb, 0, none⟩), .bool false] w (QB true w) := by
  have EN := Lib.hid (fun n => end_no (h.drewN n) hi)
  obtain ⟨c0, c1, -, -, -, -⟩ := h.f
  have hlt : (i : Int) < (s.length : Int) := by omega
  have h0 : (0 : Int) ≤ (i : Int) := by omega
  clear h
  rcases h1 with h1 | h1
  · have t1 : ((s[i].toNat : Int) == 10) = true := by rw [h1]; decide
    clear h1
    go_enter Tryz.func48, Tryz.ntmps48
    go_wp2_with fail
    go_quiet ((go_at_call 47; exact Calls.quiet_of (EN.out _)))
    go_wp2_with fail
    go_ret
    exact ⟨rfl, _, rfl⟩
  · have t1 : ((s[i].toNat : Int) == 10) = false := by rw [h1]; decide
    have t2 : ((s[i].toNat : Int) == 59) = true := by rw [h1]; decide
    clear h1
    go_enter Tryz.func48, Tryz.ntmps48
    go_wp2_with fail
    go_quiet ((go_at_call 47; exact Calls.quiet_of (EN.out _)))
    go_wp2_with fail
    go_ret
    exact ⟨rfl, _, rfl⟩
theorem white_lit (c : UInt8) (W : World) : Calls Tryz.prog 61 #[.int .u8 (c.toNat : Int)] W fun e w' => e = .returned (.bool (isW c)) ∧ W = w' :=
  white_any _ (by omega) (by have := c.toNat_lt; omega) W
theorem ended_end {w : World} (h : Rd w rb s s.length) : Calls Tryz.prog 78 #[.pointer (some ⟨rb, 0, none⟩), .bool false] w (QB true w) := by
  have PN := Lib.hid (fun n => parted_end (h.drewN n))
  unfold QB at PN ⊢
  obtain ⟨c0, c1, -, -, -, -⟩ := h.f
  clear h
  go_enter Tryz.func78, Tryz.ntmps78
  go_wp2_with fail
  go_quiet ((go_at_call 48; exact Calls.quiet_of (PN.out _)))
  go_wp2_with fail
  go_ret
  exact ⟨rfl, _, rfl⟩
theorem ended_white {w : World} (h : Rd w rb s i) (hi : i < s.length) (h1 : s[i] = 32) : Calls Tryz.prog 78 #[.pointer (some ⟨rb, 0, none⟩), .bool false] w (QB true w) := by
  have PN := Lib.hid (fun n => parted_no (h.drewN n) hi (by rw [h1]; decide) (by rw [h1]; decide))
  have WH := Lib.hid (fun W => white_lit s[i] W)
  have hw : isW s[i] = true := by rw [h1]; decide
  rw [hw] at WH
  unfold QB at PN ⊢
  obtain ⟨c0, c1, -, -, -, -⟩ := h.f
  have hlt : (i : Int) < (s.length : Int) := by omega
  have h0 : (0 : Int) ≤ (i : Int) := by omega
  clear h h1 hw
  go_enter Tryz.func78, Tryz.ntmps78
  go_wp2_with fail
  go_quiet (first | (go_at_call 48; exact Calls.quiet_of (PN.out _)) | (go_at_call 61; exact Calls.quiet_of_same ((WH.out _).mono fun e w' h => ⟨h.1, h.2.symm⟩)))
  go_wp2_with fail
  go_ret
  exact ⟨rfl, _, rfl⟩
theorem ended_no {w : World} (h : Rd w rb s i) (hi : i < s.length) (h1 : s[i] ≠ 10) (h2 : s[i] ≠ 59) (h3 : isW s[i] = false) (h4 : jnB s i = false) : Calls Tryz.prog 78 #[.pointer (some ⟨rb, 0, none⟩), .bool false] w (QB false w) := by
  have PN := Lib.hid (fun n => parted_no (h.drewN n) hi h1 h2)
  have WH := Lib.hid (fun W => white_lit s[i] W)
  have JN := Lib.hid (fun n => joins_any (h.drewN n))
  rw [h3] at WH
  simp only [h4] at JN
  unfold QB at PN ⊢
  obtain ⟨c0, c1, -, -, -, -⟩ := h.f
  have hlt : (i : Int) < (s.length : Int) := by omega
  have h0 : (0 : Int) ≤ (i : Int) := by omega
  clear h h1 h2 h3 h4
  go_enter Tryz.func78, Tryz.ntmps78
  go_wp2_with fail
  go_quiet (first | (go_at_call 48; exact Calls.quiet_of (PN.out _)) | (go_at_call 61; exact Calls.quiet_of_same ((WH.out _).mono fun e w' h => ⟨h.1, h.2.symm⟩)) | (go_at_call 64; exact Calls.quiet_of (JN.out _)))
  go_wp2_with fail
  go_ret
  exact ⟨rfl, _, rfl⟩
/-- A word ends here, so nothing is told. -/
theorem closed_any {w : World} (h : Rd w rb s i) (hr : Rest (s.drop i)) : Calls Tryz.prog 102 #[.pointer (some ⟨rb, 0, none⟩), .bool false] w fun e w' => e = .returned (.tuple #[]) ∧ ∃ m, w' = w.drewN m := by
  have EN : Hid (Calls Tryz.prog 78 #[.pointer (some ⟨rb, 0, none⟩), .bool false] w (QB true w)) := by
    rcases hr with hr | ⟨q, hr⟩
    · have hle := h.le
      have hi : i = s.length := by
        have := congrArg List.length hr
        simp at this
        omega
      subst hi
      exact ended_end h
    · have hi : i < s.length := by
        rcases Nat.lt_or_ge i s.length with h' | h'
        · exact h'
        · rw [List.drop_eq_nil_of_le h'] at hr; cases hr
      have h1 : s[i] = 32 := by
        rw [List.drop_eq_getElem_cons hi] at hr
        injection hr
      exact ended_white h hi h1
  unfold QB at EN
  clear h hr
  go_enter Tryz.func102, Tryz.ntmps102
  go_wp2_with (go_at_call 78; refine EN.out.mono ?_; rintro e w1 ⟨rfl, m, rfl⟩)
  go_end0
  exact ⟨rfl, _, rfl⟩
end
end Go.Proofs.YteojlmpipfajoaaGreatDoor
