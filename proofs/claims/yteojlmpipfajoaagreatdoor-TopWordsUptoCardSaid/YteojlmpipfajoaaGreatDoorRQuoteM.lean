/- The reference's list: what is special, what is balanced. The reference's list: balanced. The reference's list: Slashed. The reference's list: Quote. -/
import Derived.Test.YteojlmpipfajoaaGreatDoorRDictM
import Derived.Test.YteojlmpipfajoaaGreatDoorFind
import Derived.Lib.IndexMore
import Derived.Deep.LoopGhost
namespace Go.Proofs.YteojlmpipfajoaaGreatDoor
set_option linter.unusedVariables false
set_option linter.unusedSimpArgs false
open Go.RowKit

def spOk (c : UInt8) : Bool := isS c == (isW c || decide (0 ≤ firstI [c] [34, 92, 123, 125, 36, 91, 93, 59] 0))
theorem spOk_all : ∀ n : Fin 256, spOk (UInt8.ofNat n.val) = true := by decide +kernel
theorem spOk_any (c : UInt8) : spOk c = true := by
  have h := spOk_all ⟨c.toNat, c.toNat_lt⟩
  simpa using h
end Go.Proofs.YteojlmpipfajoaaGreatDoor
namespace Go.Proofs.YteojlmpipfajoaaGreatDoor
set_option linter.unusedVariables false
set_option linter.unusedSimpArgs false
open Go.RowKit

theorem occ_st (s n : Bs) (i : Nat) : Lib.occAt s n i = stB n s i := by
  unfold Lib.occAt stB
  rw [Bool.eq_iff_iff, List.isPrefixOf_iff_prefix, List.prefix_iff_eq_take, beq_iff_eq]
  exact ⟨fun h => h.symm, fun h => h.symm⟩
theorem stB_drop (n s : Bs) (k i : Nat) : stB n (s.drop k) i = stB n s (k + i) := by
  unfold stB; rw [List.drop_drop]
theorem ne_isEmpty {n : Bs} (h : n ≠ []) : (!n.isEmpty) = true := by cases n with | nil => exact absurd rfl h | cons _ _ => rfl
theorem stB_lt {n s : Bs} {j : Nat} (hne : n ≠ []) (h : stB n s j = true) : j + n.length ≤ s.length := by
  have h1 := stB_len h
  have h2 : 0 < n.length := by cases n with | nil => exact absurd rfl hne | cons _ _ => simp
  omega
theorem first_law {n s : Bs} {fr : Int} {k : Nat} (hne : n ≠ []) (hk : max fr 0 = k) : firstI n s fr = if Lib.index (s.drop k) n = -1 then -1 else k + Lib.index (s.drop k) n := by
  have hP : ∀ j : Nat, (!n.isEmpty && decide (fr ≤ (j : Nat)) && stB n s j) = true ↔ k ≤ j ∧ stB n s j = true := by
    intro j
    rw [ne_isEmpty hne, Bool.true_and, Bool.and_eq_true, decide_eq_true_eq]
    constructor <;> (rintro ⟨h1, h2⟩; exact ⟨by omega, h2⟩)
  have h0 : firstI n s fr = fstG (fun (i : Nat) => !n.isEmpty && decide (fr ≤ i) && stB n s i) s.length 0 := rfl
  rcases Lib.index_spec (s.drop k) n with ⟨h1, h2⟩ | ⟨i, h1, h2, h3, h4⟩
  · rw [if_pos h1]
    rcases fstG_spec (fun (i : Nat) => !n.isEmpty && decide (fr ≤ i) && stB n s i) s.length 0 with ⟨h3, _⟩ | ⟨q, _, _, h3, h4, _⟩
    · rw [h0, h3]
    · have h5 := (hP q).1 h4
      have h6 := stB_lt hne h5.2
      have h7 := h2 (q - k) (by simp; omega)
      rw [occ_st, stB_drop, show k + (q - k) = q from by omega, h5.2] at h7
      cases h7
  · rw [if_neg (by omega), h1]
    rw [occ_st, stB_drop] at h3
    have h5 := stB_lt hne h3
    have hn0 : 0 < n.length := by cases n with | nil => exact absurd rfl hne | cons _ _ => simp
    rcases fstG_spec (fun (i : Nat) => !n.isEmpty && decide (fr ≤ i) && stB n s i) s.length 0 with ⟨_, h6⟩ | ⟨q, h6, _, h7, h8, h9⟩
    · have h7 := h6 (k + i) (by omega) (by omega)
      rw [(hP (k + i)).2 ⟨by omega, h3⟩] at h7; cases h7
    · rw [h0, h6]
      have h10 := (hP q).1 h8
      have h11 : ¬ q < k + i := by
        intro hlt
        have := h4 (q - k) (by omega)
        rw [occ_st, stB_drop, show k + (q - k) = q from by omega, h10.2] at this
        cases this
      have h12 : ¬ k + i < q := by
        intro hlt
        have := h9 (k + i) (by omega) hlt
        rw [(hP (k + i)).2 ⟨by omega, h3⟩] at this; cases this
      omega
end Go.Proofs.YteojlmpipfajoaaGreatDoor
namespace Go.Proofs.YteojlmpipfajoaaGreatDoor
set_option linter.unusedVariables false
set_option linter.unusedSimpArgs false
open Go.RowKit

/-- What is still to be written of a text that is quoted with backslashes. -/
def slR (s : Bs) (j : Nat) : Bs := if j = 0 then slashed s else ((s.drop j).map (slashB false)).flatten
theorem slR_step {s : Bs} {j : Nat} (h : j < s.length) : slR s j = slashB (j == 0) s[j] ++ slR s (j + 1) := by
  unfold slR
  rw [if_neg (by omega : ¬ j + 1 = 0)]
  by_cases h0 : j = 0
  · subst h0
    rw [if_pos rfl]
    cases s with
    | nil => simp at h
    | cons c r => rfl
  · rw [if_neg h0, List.drop_eq_getElem_cons h, List.map_cons, List.flatten_cons, show (j == 0) = false from beq_eq_false_iff_ne.2 h0]
theorem slR_end (s : Bs) : slR s s.length = [] := by
  unfold slR
  split
  · rename_i h
    rw [List.length_eq_zero_iff.1 h]; rfl
  · simp
end Go.Proofs.YteojlmpipfajoaaGreatDoor
namespace Go.Proofs.YteojlmpipfajoaaGreatDoor
set_option linter.unusedVariables false
set_option linter.unusedSimpArgs false
open Go.RowKit

end Go.Proofs.YteojlmpipfajoaaGreatDoor
