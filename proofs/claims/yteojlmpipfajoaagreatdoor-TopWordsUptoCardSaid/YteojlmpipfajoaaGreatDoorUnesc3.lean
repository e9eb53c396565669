/- 'Unescape' of threadbareref01. -/
import Derived.Test.YteojlmpipfajoaaGreatDoorUnesc2
namespace Go.Proofs.YteojlmpipfajoaaGreatDoor
set_option linter.unusedVariables false
set_option linter.unusedSimpArgs false
open Go.RowKit

def escR (d : Int) : Int := if d = 97 then 0 else if d = 98 then 1 else if d = 102 then 2 else if d = 110 then 3 else if d = 114 then 4 else if d = 116 then 5 else if d = 118 then 6 else -1
theorem first_esc (c : UInt8) : firstI [c] [97, 98, 102, 110, 114, 116, 118] 0 = escR (c.toNat : Int) := by
  by_cases h1 : c = 97
  · subst h1; decide
  by_cases h2 : c = 98
  · subst h2; decide
  by_cases h3 : c = 102
  · subst h3; decide
  by_cases h4 : c = 110
  · subst h4; decide
  by_cases h5 : c = 114
  · subst h5; decide
  by_cases h6 : c = 116
  · subst h6; decide
  by_cases h7 : c = 118
  · subst h7; decide
  have hn : ∀ (x : UInt8) (y : Int), (x.toNat : Int) = y → c ≠ x → ¬ ((c.toNat : Int) = y) := fun x y hy h e => h (byte_inj (by omega))
  unfold escR
  rw [if_neg (hn 97 97 rfl h1), if_neg (hn 98 98 rfl h2), if_neg (hn 102 102 rfl h3), if_neg (hn 110 110 rfl h4), if_neg (hn 114 114 rfl h5), if_neg (hn 116 116 rfl h6), if_neg (hn 118 118 rfl h7)]
  unfold firstI
  rcases fstG_spec (fun (i : Nat) => !([c] : Bs).isEmpty && decide ((0 : Int) ≤ i) && stB [c] [97, 98, 102, 110, 114, 116, 118] i) ([97, 98, 102, 110, 114, 116, 118] : Bs).length 0 with ⟨h, _⟩ | ⟨k, _, _, hk, hP, _⟩
  · exact h
  · exfalso
    simp only [List.length_cons, List.length_nil] at hk
    simp only [Bool.and_eq_true, stB, beq_iff_eq] at hP
    have hP2 := hP.2
    rcases (by omega : k = 0 ∨ k = 1 ∨ k = 2 ∨ k = 3 ∨ k = 4 ∨ k = 5 ∨ k = 6) with rfl | rfl | rfl | rfl | rfl | rfl | rfl
    · exact h1 (by simpa using hP2.symm)
    · exact h2 (by simpa using hP2.symm)
    · exact h3 (by simpa using hP2.symm)
    · exact h4 (by simpa using hP2.symm)
    · exact h5 (by simpa using hP2.symm)
    · exact h6 (by simpa using hP2.symm)
    · exact h7 (by simpa using hP2.symm)
theorem escR_law (d : Int) : (escR d = -1 ∧ ¬ (0 : Int) ≤ escI d) ∨ ∃ j : Nat, escR d = j ∧ j ≤ 6 ∧ (0 : Int) ≤ escI d ∧ (([7, 8, 12, 10, 13, 9, 11] : Bs).drop j).take 1 = [byteI ((7 : Int) + escI d)] := by
  unfold escR
  split
  · rename_i h; subst h; exact .inr ⟨0, rfl, by decide, by decide, by decide⟩
  split
  · rename_i h; subst h; exact .inr ⟨1, rfl, by decide, by decide, by decide⟩
  split
  · rename_i h; subst h; exact .inr ⟨2, rfl, by decide, by decide, by decide⟩
  split
  · rename_i h; subst h; exact .inr ⟨3, rfl, by decide, by decide, by decide⟩
  split
  · rename_i h; subst h; exact .inr ⟨4, rfl, by decide, by decide, by decide⟩
  split
  · rename_i h; subst h; exact .inr ⟨5, rfl, by decide, by decide, by decide⟩
  split
  · rename_i h; subst h; exact .inr ⟨6, rfl, by decide, by decide, by decide⟩
  · refine .inl ⟨rfl, ?_⟩
    unfold escI
    repeat' split
    all_goals omega

end Go.Proofs.YteojlmpipfajoaaGreatDoor
