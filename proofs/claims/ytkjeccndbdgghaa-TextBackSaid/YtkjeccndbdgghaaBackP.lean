/- Plain laws for 'TextBack'. -/
import Derived.Test.YtkjeccndbdgghaaFinds4
import Derived.Test.YtkjeccndbdgghaaRev
import Derived.Test.YtkjeccndbdgghaaRepeat
namespace Go.Proofs.Ytkjeccndbdgghaa

theorem low_up (s : Bs) : lowS (upS s) = lowS s := by
  simp only [lowS, upS, List.map_map]
  apply List.map_congr_left
  intro c _
  apply byte_inj
  have h1 := lowB_toNat (upB c)
  have h2 := upB_toNat c
  have h3 := lowB_toNat c
  rw [h2] at h1
  have h4 : lowI (upI (c.toNat : Int)) = lowI (c.toNat : Int) := by
    unfold lowI upI
    split <;> split <;> (try split) <;> omega
  show (lowB (upB c)).toNat = (lowB c).toNat
  omega

theorem repeatL_add (l : Bs) (m : Nat) : ∀ n, Lib.repeatL l m ++ Lib.repeatL l n = Lib.repeatL l (m + n)
  | 0 => by simp [Lib.repeatL]
  | n + 1 => by rw [repeatL_snoc, ← List.append_assoc, repeatL_add l m n, ← Nat.add_assoc, repeatL_snoc]
theorem repeatL_len (l : Bs) : ∀ n, (Lib.repeatL l n).length = n * l.length
  | 0 => by simp [Lib.repeatL]
  | n + 1 => by rw [repeatL_snoc, List.length_append, repeatL_len l n, Nat.succ_mul]
theorem repeatL_empty : ∀ n, Lib.repeatL ([] : Bs) n = []
  | 0 => rfl
  | n + 1 => by rw [repeatL_snoc, repeatL_empty n]; rfl
theorem repC_small (s : Bs) (n : Int) (hs : s.length ≤ 400) (h0 : 0 ≤ n) (h1 : n ≤ 40) : repC s n = (Lib.repeatL s n.toNat, 0) := by
  have hl := repeatL_len s n.toNat
  have hb : n.toNat * s.length ≤ 40 * 400 := Nat.mul_le_mul (by omega) hs
  unfold repC
  split
  · rename_i h
    rcases h with h | h
    · have : n.toNat = 0 := by omega
      rw [this]; rfl
    · subst h; rw [repeatL_empty]
  · rw [if_pos]
    obtain ⟨k, rfl⟩ : ∃ k : Nat, n = k := ⟨n.toNat, by omega⟩
    rw [Int.toNat_natCast] at hb
    rw [← Int.natCast_mul]; omega

theorem first_stands {n s : Bs} {fr : Int} : firstI n s fr = -1 ∨ ∃ k : Nat, firstI n s fr = k ∧ k + n.length ≤ s.length ∧ (s.drop k).take n.length = n ∧ fr ≤ k := by
  by_cases hne : n = []
  · left; rw [hne, firstI_empty]
  rcases fstG_spec (fun (i : Nat) => !n.isEmpty && decide (fr ≤ i) && stB n s i) s.length 0 with ⟨h, _⟩ | ⟨k, h, _, _, hP, _⟩
  · exact .inl h
  · simp only [Bool.and_eq_true, decide_eq_true_eq] at hP
    exact .inr ⟨k, h, stB_lt hne hP.2, beq_iff_eq.1 hP.2, hP.1.2⟩
theorem last_stands {n s : Bs} {tt : Int} : lastI n s tt = -1 ∨ ∃ k : Nat, lastI n s tt = k ∧ k + n.length ≤ s.length ∧ (s.drop k).take n.length = n ∧ (k : Int) ≤ tt := by
  by_cases hne : n = []
  · left; rw [hne, lastI_empty]
  rcases lstG_spec (fun (i : Nat) => !n.isEmpty && decide ((i : Int) ≤ tt) && stB n s i) s.length with ⟨h, _⟩ | ⟨k, h, _, hP, _⟩
  · exact .inl h
  · simp only [Bool.and_eq_true, decide_eq_true_eq] at hP
    exact .inr ⟨k, h, stB_lt hne hP.2, beq_iff_eq.1 hP.2, hP.1.2⟩

theorem range_back {s t : Bs} {a b : Nat} (hab : a ≤ b) (hb : b < s.length) : rangeC (s.take a ++ t ++ s.drop (b + 1)) (a : Int) ((a : Int) + t.length - 1) = t := by
  have hla : (s.take a).length = a := by rw [List.length_take]; omega
  unfold rangeC
  by_cases ht : t = []
  · subst ht
    rw [if_neg]
    simp only [List.length_nil, List.length_append]
    omega
  · have hlt : 0 < t.length := List.length_pos_iff.2 ht
    have hl : ((s.take a ++ t ++ s.drop (b + 1)).length : Int) = a + t.length + (s.length - (b + 1)) := by
      rw [List.length_append, List.length_append, hla, List.length_drop]; omega
    have e1 : max (a : Int) 0 = a := by omega
    have e2 : min ((a : Int) + t.length - 1) (((s.take a ++ t ++ s.drop (b + 1)).length : Int) - 1) = ((a + t.length - 1 : Nat) : Int) := by rw [hl]; omega
    rw [e1, e2, if_pos (by omega), Int.toNat_natCast, Int.toNat_natCast, List.append_assoc, List.drop_append_of_le_length (by omega), List.drop_of_length_le (by omega), List.nil_append, show a + t.length - 1 + 1 - a = t.length from by omega, List.take_left']
    rfl
theorem replC_mid {s t : Bs} {a b : Nat} (hab : a ≤ b) (hb : b < s.length) : replC s t (a : Int) (b : Int) = s.take a ++ t ++ s.drop (b + 1) := by
  have e1 : max (a : Int) 0 = a := by omega
  have e2 : min (b : Int) ((s.length : Int) - 1) = b := by omega
  rw [replC_yes (by rw [e1, e2]; omega), e1, e2, Int.toNat_natCast, Int.toNat_natCast]
end Go.Proofs.Ytkjeccndbdgghaa
