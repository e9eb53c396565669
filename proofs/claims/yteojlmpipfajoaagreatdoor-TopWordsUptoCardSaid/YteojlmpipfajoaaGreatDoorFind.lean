/- The reference's First and Last: plainly, and walked. -/
import Derived.Test.YteojlmpipfajoaaGreatDoorRef1
namespace Go.Proofs.YteojlmpipfajoaaGreatDoor
set_option linter.unusedVariables false
set_option linter.unusedSimpArgs false
open Go.RowKit

/-- The needle stands at k. -/
def stB (n s : Bs) (k : Nat) : Bool := (s.drop k).take n.length == n
theorem stB_len {n s : Bs} {k : Nat} (h : stB n s k = true) : n.length ≤ s.length - k := by
  have := congrArg List.length (beq_iff_eq.1 h)
  simp at this; omega

/-- The first index from i on, of m, that P takes. -/
def fstG (P : Nat → Bool) : Nat → Nat → Int
  | 0, _ => -1
  | m + 1, i => if P i then i else fstG P m (i + 1)
def firstI (n s : Bs) (fr : Int) : Int := fstG (fun (i : Nat) => !n.isEmpty && decide (fr ≤ i) && stB n s i) s.length 0
/-- The last index below m that P takes. -/
def lstG (P : Nat → Bool) : Nat → Int
  | 0 => -1
  | m + 1 => if P m then m else lstG P m
def lastI (n s : Bs) (to : Int) : Int := lstG (fun (i : Nat) => !n.isEmpty && decide ((i : Int) ≤ to) && stB n s i) s.length

theorem fstG_spec (P : Nat → Bool) : ∀ (m i : Nat), (fstG P m i = -1 ∧ ∀ j, i ≤ j → j < i + m → P j = false) ∨ (∃ k, fstG P m i = (k : Nat) ∧ i ≤ k ∧ k < i + m ∧ P k = true ∧ ∀ j, i ≤ j → j < k → P j = false)
  | 0, i => .inl ⟨rfl, fun j h1 h2 => by omega⟩
  | m + 1, i => by
    unfold fstG
    by_cases h : P i = true
    · rw [if_pos h]; exact .inr ⟨i, rfl, Nat.le_refl _, by omega, h, fun j h1 h2 => by omega⟩
    · rw [if_neg h]
      have h' : P i = false := by simpa using h
      rcases fstG_spec P m (i + 1) with ⟨h1, h2⟩ | ⟨k, h1, h2, h3, h4, h5⟩
      · refine .inl ⟨h1, fun j h3 h4 => ?_⟩
        by_cases e : j = i
        · rw [e]; exact h'
        · exact h2 j (by omega) (by omega)
      · refine .inr ⟨k, h1, by omega, by omega, h4, fun j h6 h7 => ?_⟩
        by_cases e : j = i
        · rw [e]; exact h'
        · exact h5 j (by omega) (by omega)
theorem lstG_spec (P : Nat → Bool) : ∀ (m : Nat), (lstG P m = -1 ∧ ∀ j, j < m → P j = false) ∨ (∃ k, lstG P m = (k : Nat) ∧ k < m ∧ P k = true ∧ ∀ j, k < j → j < m → P j = false)
  | 0 => .inl ⟨rfl, fun j h2 => by omega⟩
  | m + 1 => by
    unfold lstG
    by_cases h : P m = true
    · rw [if_pos h]; exact .inr ⟨m, rfl, by omega, h, fun j h1 h2 => by omega⟩
    · rw [if_neg h]
      have h' : P m = false := by simpa using h
      rcases lstG_spec P m with ⟨h1, h2⟩ | ⟨k, h1, h2, h3, h4⟩
      · refine .inl ⟨h1, fun j h3 => ?_⟩
        by_cases e : j = m
        · rw [e]; exact h'
        · exact h2 j (by omega)
      · refine .inr ⟨k, h1, by omega, h3, fun j h6 h7 => ?_⟩
        by_cases e : j = m
        · rw [e]; exact h'
        · exact h4 j h6 (by omega)

end Go.Proofs.YteojlmpipfajoaaGreatDoor
