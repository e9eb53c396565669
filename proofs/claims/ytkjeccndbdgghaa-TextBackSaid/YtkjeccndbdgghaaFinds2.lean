/- Plain laws: where needles stand, by the library's functions and by the reference's. -/
import Derived.Test.YtkjeccndbdgghaaFinds
import Derived.Lib.LastIndexLaws
namespace Go.Proofs.Ytkjeccndbdgghaa

theorem occ_st (s n : Bs) (i : Nat) : Lib.occAt s n i = stB n s i := by
  unfold Lib.occAt stB
  rw [Bool.eq_iff_iff, List.isPrefixOf_iff_prefix, List.prefix_iff_eq_take, beq_iff_eq]
  exact ⟨fun h => h.symm, fun h => h.symm⟩
theorem stB_drop (n s : Bs) (k i : Nat) : stB n (s.drop k) i = stB n s (k + i) := by
  unfold stB; rw [List.drop_drop]
theorem stB_lt {n s : Bs} {j : Nat} (hne : n ≠ []) (h : stB n s j = true) : j + n.length ≤ s.length := by
  have h1 := stB_len h
  have h2 : 0 < n.length := by cases n with | nil => exact absurd rfl hne | cons _ _ => simp
  omega
theorem ne_isEmpty {n : Bs} (h : n ≠ []) : (!n.isEmpty) = true := by cases n with | nil => exact absurd rfl h | cons _ _ => rfl

theorem firstI_empty (s : Bs) (fr : Int) : firstI [] s fr = -1 := by
  rcases fstG_spec (fun (i : Nat) => !([] : Bs).isEmpty && decide (fr ≤ i) && stB [] s i) s.length 0 with ⟨h, _⟩ | ⟨k, _, _, _, h, _⟩
  · exact h
  · simp at h
theorem lastI_empty (s : Bs) (tt : Int) : lastI [] s tt = -1 := by
  rcases lstG_spec (fun (i : Nat) => !([] : Bs).isEmpty && decide ((i : Int) ≤ tt) && stB [] s i) s.length with ⟨h, _⟩ | ⟨k, _, _, h, _⟩
  · exact h
  · simp at h
theorem first_past {n s : Bs} {fr : Int} (h : (s.length : Int) < max fr 0) : firstI n s fr = -1 := by
  rcases fstG_spec (fun (i : Nat) => !n.isEmpty && decide (fr ≤ i) && stB n s i) s.length 0 with ⟨h1, _⟩ | ⟨k, _, _, h2, h3, _⟩
  · exact h1
  · simp only [Bool.and_eq_true, decide_eq_true_eq] at h3
    omega
theorem last_before {n s : Bs} {tt : Int} (h : tt < 0) : lastI n s tt = -1 := by
  rcases lstG_spec (fun (i : Nat) => !n.isEmpty && decide ((i : Int) ≤ tt) && stB n s i) s.length with ⟨h1, _⟩ | ⟨k, _, _, h3, _⟩
  · exact h1
  · simp only [Bool.and_eq_true, decide_eq_true_eq] at h3
    omega

theorem first_law {n s : Bs} {fr : Int} {k : Nat} (hne : n ≠ []) (hk : max fr 0 = k) : firstI n s fr = if Lib.index (s.drop k) n = -1 then -1 else k + Lib.index (s.drop k) n := by
  have hP : ∀ j : Nat, (!n.isEmpty && decide (fr ≤ (j : Nat)) && stB n s j) = true ↔ k ≤ j ∧ stB n s j = true := by
    intro j
    rw [ne_isEmpty hne, Bool.true_and, Bool.and_eq_true, decide_eq_true_eq]
    constructor <;> (rintro ⟨h1, h2⟩; exact ⟨by omega, h2⟩)
  have h0 : firstI n s fr = fstG (fun (i : Nat) => !n.isEmpty && decide (fr ≤ i) && stB n s i) s.length 0 := rfl
  rcases Lib.index_spec (s.drop k) n with ⟨h1, h2⟩ | ⟨i, h1, h2, h3, h4⟩
  · rw [if_pos h1]
    rcases fstG_spec (fun (i : Nat) => !n.isEmpty && decide (fr ≤ i) && stB n s i) s.length 0 with ⟨h3, _⟩ | ⟨q, _, _, h3, h4, _⟩
    · rw [h0, h3]
    · have h5 := (hP q).1 h4
      have h6 := stB_lt hne h5.2
      have h7 := h2 (q - k) (by simp; omega)
      rw [occ_st, stB_drop, show k + (q - k) = q from by omega, h5.2] at h7
      cases h7
  · rw [if_neg (by omega), h1]
    rw [occ_st, stB_drop] at h3
    have h5 := stB_lt hne h3
    have hn0 : 0 < n.length := by cases n with | nil => exact absurd rfl hne | cons _ _ => simp
    rcases fstG_spec (fun (i : Nat) => !n.isEmpty && decide (fr ≤ i) && stB n s i) s.length 0 with ⟨_, h6⟩ | ⟨q, h6, _, h7, h8, h9⟩
    · have h7 := h6 (k + i) (by omega) (by omega)
      rw [(hP (k + i)).2 ⟨by omega, h3⟩] at h7; cases h7
    · rw [h0, h6]
      have h10 := (hP q).1 h8
      have h11 : ¬ q < k + i := by
        intro hlt
        have := h4 (q - k) (by omega)
        rw [occ_st, stB_drop, show k + (q - k) = q from by omega, h10.2] at this
        cases this
      have h12 : ¬ k + i < q := by
        intro hlt
        have := h9 (k + i) (by omega) hlt
        rw [(hP (k + i)).2 ⟨by omega, h3⟩] at this; cases this
      omega

theorem stB_take {n s : Bs} {m i : Nat} (h : i + n.length ≤ m) : stB n (s.take m) i = stB n s i := by
  unfold stB
  rw [List.drop_take, List.take_take, show min n.length (m - i) = n.length from by omega]

/-- The text in which 'Last' of package text looks. -/
theorem last_law {n s : Bs} {tt : Int} (hne : n ≠ []) (ht : 0 ≤ tt) : lastI n s tt = Lib.lastIndex (if tt < (s.length : Int) - n.length then s.take (tt.toNat + n.length) else s) n := by
  have hn0 : 0 < n.length := by cases n with | nil => exact absurd rfl hne | cons _ _ => simp
  have h0 : lastI n s tt = lstG (fun (i : Nat) => !n.isEmpty && decide ((i : Int) ≤ tt) && stB n s i) s.length := rfl
  have hP : ∀ j : Nat, (!n.isEmpty && decide ((j : Int) ≤ tt) && stB n s j) = true ↔ (j : Int) ≤ tt ∧ stB n s j = true := by
    intro j
    rw [ne_isEmpty hne, Bool.true_and, Bool.and_eq_true, decide_eq_true_eq]
  generalize hq : (if tt < (s.length : Int) - n.length then s.take (tt.toNat + n.length) else s) = z
  have hz : ∀ j : Nat, (j + n.length ≤ z.length ∧ Lib.occAt z n j = true) ↔ ((j : Int) ≤ tt ∧ stB n s j = true) := by
    intro j
    rw [occ_st]
    by_cases hc : tt < (s.length : Int) - n.length
    · rw [if_pos hc] at hq
      subst hq
      have hl : (s.take (tt.toNat + n.length)).length = tt.toNat + n.length := by simp; omega
      rw [hl]
      constructor
      · rintro ⟨h1, h2⟩; rw [stB_take h1] at h2; exact ⟨by omega, h2⟩
      · rintro ⟨h1, h2⟩; exact ⟨by omega, by rw [stB_take (by omega)]; exact h2⟩
    · rw [if_neg hc] at hq
      subst hq
      constructor
      · rintro ⟨h1, h2⟩; exact ⟨by omega, h2⟩
      · rintro ⟨h1, h2⟩; exact ⟨stB_lt hne h2, h2⟩
  rw [h0]
  rcases lstG_spec (fun (i : Nat) => !n.isEmpty && decide ((i : Int) ≤ tt) && stB n s i) s.length with ⟨h1, h2⟩ | ⟨k, h1, h2, h3, h4⟩
  · rw [h1, Lib.lastIndex]
    split
    · rcases Lib.lastOcc_spec z n (z.length - n.length + 1) with ⟨h3, _⟩ | ⟨i, h3, h4, h5, _⟩
      · exact h3.symm
      · have h6 := (hz i).1 ⟨by omega, h5⟩
        have h7 := h2 i (by have := stB_lt hne h6.2; omega)
        rw [(hP i).2 h6] at h7; cases h7
    · rfl
  · rw [h1, Lib.lastIndex]
    have h5 := (hz k).2 ((hP k).1 h3)
    rw [if_pos (by omega)]
    rcases Lib.lastOcc_spec z n (z.length - n.length + 1) with ⟨_, h6⟩ | ⟨i, h6, h7, h8, h9⟩
    · have := h6 k (by omega)
      rw [h5.2] at this; cases this
    · rw [h7]
      have h10 := (hz i).1 ⟨by omega, h8⟩
      have h11 : ¬ k < i := by
        intro hlt
        have := h4 i hlt (by have := stB_lt hne h10.2; omega)
        rw [(hP i).2 h10] at this; cases this
      have h12 : ¬ i < k := by
        intro hlt
        have := h9 k hlt (by omega)
        rw [h5.2] at this; cases this
      congr 1; omega

theorem less_compare : ∀ a b : Bs, Lib.compareBytes a b = if Op.bytesLess a b = true then -1 else if a = b then 0 else 1
  | [], [] => rfl
  | [], _ :: _ => rfl
  | _ :: _, [] => rfl
  | x :: a, y :: b => by
    have ih := less_compare a b
    rw [Lib.compareBytes, Op.bytesLess]
    by_cases h1 : x < y
    · rw [if_pos h1, if_pos (by simp [h1])]
    · rw [if_neg h1]
      by_cases h2 : y < x
      · rw [if_pos h2]
        have hne : x ≠ y := by intro h; rw [h] at h2; exact absurd h2 (UInt8.lt_irrefl _)
        rw [if_neg (by simp [h1, hne]), if_neg (by simp [hne])]
      · rw [if_neg h2]
        have he : x = y := by
          have e1 : ¬ x.toNat < y.toNat := h1
          have e2 : ¬ y.toNat < x.toNat := h2
          exact byte_inj (by omega)
        subst he
        rw [ih]
        simp [h1]
end Go.Proofs.Ytkjeccndbdgghaa
