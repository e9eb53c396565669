/- The reader of scripts: blanks. -/
import Derived.Test.YteojlmpipfajoaaGreatDoorTwR2
import Derived.Laws.Rows
namespace Go.Proofs.YteojlmpipfajoaaGreatDoor
set_option linter.unusedVariables false
set_option linter.unusedSimpArgs false
open Go.RowKit
theorem quiet_add {P : Program} {f : FuncId} {args : Array Value} {w : World} {a n : Nat} {v : Value} (h : Calls P f args (w.drewN (a + n)) fun e w' => e = .returned v ∧ ∃ m, w' = (w.drewN (a + n)).drewN m) :
    Calls P f args (w.drewN (a + n)) fun e w'' => e = .returned v ∧ ∃ m, w'' = w.drewN (a + m) :=
  h.mono fun _ _ ⟨he, m, hm⟩ => ⟨he, n + m, by rw [hm, World.drewN_drewN, Nat.add_assoc]⟩
theorem quiet_add_left {P : Program} {f : FuncId} {args : Array Value} {w : World} {a n : Nat} {v : Value} (h : Calls P f args (w.drewN (a + n)) fun e w' => e = .returned v ∧ w.drewN (a + n) = w') :
    Calls P f args (w.drewN (a + n)) fun e w'' => e = .returned v ∧ ∃ m, w'' = w.drewN (a + m) :=
  h.mono fun _ _ ⟨he, hm⟩ => ⟨he, n, hm.symm⟩
section
variable {rb i : Nat} {s : Bs}
theorem Rd.step {w : World} (h : Rd w rb s i) (j : Nat) (hj : j ≤ s.length) : Rd (w.setCell ⟨rb, 1, none⟩ (.int .i64 (j : Int))) rb s j :=
  ⟨by have h0 := h.h; unfold RdO at h0 ⊢; exact heap_setCell_same w rb 1 _ _ (.int .i64 (j : Int)) h0, hj, h.len⟩
theorem jn_first (hi : i < s.length) (h : s[i] ≠ 92) : jnB s i = false := by
  unfold jnB Lib.hasPrefix
  rw [List.drop_eq_getElem_cons hi]
  simp [List.isPrefixOf, Ne.symm h]
/-- Where blanks stop. -/
def StopB (s : Bs) (j : Nat) : Prop := j = s.length ∨ ∃ h : j < s.length, isW s[j] = false ∧ jnB s j = false
theorem white_10 : isW 10 = true := by decide
set_option maxRecDepth 100000 in
set_option maxHeartbeats 800000 in
theorem blanks_any {w : World} (h : Rd w rb s i) (J : Nat) (hiJ : i ≤ J) (hk : ∀ j, i ≤ j → j < J → ∃ h : j < s.length, s[j] = 32) (hst : StopB s J) :
    Calls Tryz.prog 46 #[.pointer (some ⟨rb, 0, none⟩)] w fun e w' => e = .returned (.tuple #[]) ∧ Rd w' rb s J ∧ Kp [rb] w w' := by
  have HK := Lib.hid hk
  have HS := Lib.hid hst
  have H0 := Lib.hid h
  have hlen := h.len
  clear hk hst h
  go_enter Tryz.func46, Tryz.ntmps46
  go_wp2_with fail
  go_loopg [] (J - i) (fun g wr => ∃ j, j + g = J ∧ i ≤ j ∧ Hid (Rd wr rb s j ∧ Kp [rb] w wr))
  case atStart => exact ⟨i, by omega, Nat.le_refl _, H0.out, Kp.refl _ _⟩
  case round =>
    obtain ⟨j, hjg, hij, HR⟩ := hrel
    have hle := HR.out.1.le
    obtain ⟨c0, c1, -, -, -, fz⟩ := HR.out.1.f
    by_cases hlt : j < J
    · obtain ⟨hjl, h32⟩ := HK.out j hij hlt
      have EN := Lib.hid (end_no HR.out.1 hjl)
      have JN := Lib.hid (fun n => joins_any (HR.out.1.drewN n))
      simp only [jn_first hjl (by rw [h32]; decide)] at JN
      have WH := Lib.hid (fun W => white_lit s[j] W)
      rw [h32, show isW 32 = true by decide] at WH
      have hsj : s[j] = 32 := h32
      have hb1 : (j : Int) < (s.length : Int) := by omega
      have hb0 : (0 : Int) ≤ (j : Int) := by omega
      have t32 : (((32 : UInt8).toNat : Nat) : Int) = 32 := by decide
      rw [t32] at WH
      clear h32
      go_wp2_with (first | (go_at_call 47; refine EN.out.mono ?_; rintro e w1 ⟨rfl, m1, rfl⟩) | (go_at_call 64; refine (JN.out _).mono ?_; rintro e w2 ⟨rfl, m2, rfl⟩))
      go_quiet ((go_at_call 61; exact quiet_add_left (WH.out _)))
      go_wp2_with fail
      go_roundg (gk - 1)
      case measure => omega
      case rel =>
        have h1 : Rd ((wr.drewN (m1 + m2 + nq)).setCell ⟨rb, 1, none⟩ (.int .i64 ((j + 1 : Nat) : Int))) rb s (j + 1) := (HR.out.1.drewN _).step (j + 1) (by omega)
        have h2 : Kp [rb] w ((wr.drewN (m1 + m2 + nq)).setCell ⟨rb, 1, none⟩ (.int .i64 ((j + 1 : Nat) : Int))) := (HR.out.2.drewN _).setCell rb 1 _ (.inl (by simp))
        have e1 : (.int .i64 ((j : Int) + 1) : Value) = .int .i64 ((j + 1 : Nat) : Int) := by go_num
        exact ⟨j + 1, by omega, by omega, by rw [e1]; exact ⟨h1, h2⟩⟩
    · obtain rfl : j = J := by omega
      rcases HS.out with he | ⟨hjl, hw, hj⟩
      · have EN : Hid (Calls Tryz.prog 47 #[.pointer (some ⟨rb, 0, none⟩)] wr fun e w' => e = .returned (.bool true) ∧ ∃ m, w' = wr.drewN m) := end_yes (by rw [← he]; exact HR.out.1)
        go_wp2_with (go_at_call 47; refine EN.out.mono ?_; rintro e w1 ⟨rfl, m1, rfl⟩)
        go_end0
        exact ⟨rfl, HR.out.1.drewN _, HR.out.2.drewN _⟩
      · have EN := Lib.hid (end_no HR.out.1 hjl)
        have JN := Lib.hid (fun n => joins_any (HR.out.1.drewN n))
        simp only [hj] at JN
        have WH := Lib.hid (fun W => white_lit s[j] W)
        rw [hw] at WH
        have hne : ((s[j].toNat : Int) == 10) = false := by
          rw [beq_eq_false_iff_ne]
          intro e
          have : s[j] = 10 := UInt8.toNat_inj.1 (by simpa using (by exact_mod_cast e : s[j].toNat = 10))
          rw [this, white_10] at hw
          cases hw
        have hne2 : ((s[j].toNat : Int) != 10) = true := by rw [bne, hne]; rfl
        have hb1 : (j : Int) < (s.length : Int) := by omega
        have hb0 : (0 : Int) ≤ (j : Int) := by omega
        clear hw hj
        go_wp2_with (first | (go_at_call 47; refine EN.out.mono ?_; rintro e w1 ⟨rfl, m1, rfl⟩) | (go_at_call 64; refine (JN.out _).mono ?_; rintro e w2 ⟨rfl, m2, rfl⟩))
        go_quiet ((go_at_call 61; exact quiet_add_left (WH.out _)))
        go_wp2_with fail
        refine bodyPost_ret (results_none rfl _ _ _) rfl ?_
        exact ⟨rfl, (HR.out.1.drewN _).drewN _, (HR.out.2.drewN _).drewN _⟩
end
end Go.Proofs.YteojlmpipfajoaaGreatDoor
