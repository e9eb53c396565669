/- Lists: an element's text is its span with its backslashes read (as the reference says it). No program in sight. -/
import Derived.Test.YteojlmpipfajoaaGreatDoorLLaw
namespace Go.Proofs.YteojlmpipfajoaaGreatDoor
set_option linter.unusedVariables false
set_option linter.unusedSimpArgs false

theorem digF_cut (base : Int) : ∀ (m : Nat) (x R : Bs) (v : Int), (digF base m (x ++ R) v).2 ≤ x.length → digF base m x v = digF base m (x ++ R) v
  | 0, _, _, _, _ => rfl
  | m + 1, [], R, v, h => by
    cases R with
    | nil => rfl
    | cons c t =>
      rw [List.nil_append] at h ⊢
      unfold digF at h ⊢
      split
      · rename_i hc; rw [if_pos hc] at h; simp at h
      · rfl
  | m + 1, c :: x, R, v, h => by
    rw [List.cons_append] at h ⊢
    rw [digF] at h
    rw [digF, digF]
    split
    · rename_i hc
      rw [if_pos hc] at h
      rw [digF_cut base m x R _ (by simp at h; omega)]
    · rfl
theorem takeWhile_cut (p : UInt8 → Bool) : ∀ (x R : Bs), ((x ++ R).takeWhile p).length ≤ x.length → x.takeWhile p = (x ++ R).takeWhile p
  | [], R, h => by
    have : (R.takeWhile p).length ≤ 0 := h
    rw [List.nil_append, List.eq_nil_of_length_eq_zero (Nat.le_zero.1 this)]; rfl
  | c :: x, R, h => by
    rw [List.cons_append, List.takeWhile_cons] at h
    rw [List.cons_append, List.takeWhile_cons, List.takeWhile_cons]
    split
    · rename_i hc
      rw [if_pos hc] at h
      rw [takeWhile_cut p x R (by simp at h; omega)]
    · rfl
theorem unesc1_pos (d : UInt8) (s : Bs) : 2 ≤ (unesc1 d s).2 := by
  unfold unesc1
  repeat' split
  all_goals (simp only; omega)
theorem unesc_cut (u R : Bs) (h : (unesc (u ++ R)).2 ≤ u.length) : unesc u = unesc (u ++ R) := by
  match u, h with
  | [], h =>
    have h1 := unesc_len R
    have h2 : (unesc R).2 = 0 := Nat.le_zero.1 h
    have h3 : (unesc R).1 = [] := List.length_eq_zero_iff.1 (by omega)
    rw [List.nil_append]
    exact (Prod.ext h3 h2).symm
  | [c], h =>
    cases R with
    | nil => rfl
    | cons e R =>
      unfold unesc at h ⊢
      have hl : 1 < ([c] ++ e :: R).length := by simp
      rw [dif_pos hl] at h ⊢
      simp only [List.cons_append, List.nil_append, List.getElem_cons_zero] at h ⊢
      split at h
      · have := unesc1_pos ((c :: e :: R)[1]) (c :: e :: R)
        simp at h this; omega
      · rename_i hc
        rw [if_neg hc]
        simp only [List.length_cons, List.length_nil]
        rw [dif_neg (by omega), if_neg (fun e => by cases e; exact hc rfl)]
  | c :: d :: u, h =>
    unfold unesc at h ⊢
    have hl : 1 < ((c :: d :: u) ++ R).length := by simp
    have hl' : 1 < (c :: d :: u).length := by simp
    rw [dif_pos hl] at h
    rw [dif_pos hl, dif_pos hl']
    simp only [List.cons_append, List.getElem_cons_zero, List.getElem_cons_succ] at h ⊢
    split at h
    · rename_i hc
      rw [if_pos hc, if_pos hc]
      unfold unesc1 at h ⊢
      simp only [List.drop_succ_cons, List.drop_zero, List.length_cons] at h ⊢
      split
      · rfl
      · rename_i h1
        rw [if_neg h1] at h
        split at h
        · rename_i h2
          have e := digF_cut 16 2 u R 0 (by simp only at h; omega)
          rw [e, if_pos h2, if_pos h2]
        · rename_i h2
          have e2 : ¬ (d.toNat = 120 ∧ 0 < (digF 16 2 u 0).2) := by
            intro h3
            have h4 : (digF 16 2 (u ++ R) 0).2 = 0 := by
              rcases Nat.eq_zero_or_pos (digF 16 2 (u ++ R) 0).2 with h | h
              · exact h
              · exact absurd ⟨h3.1, h⟩ h2
            have e := digF_cut 16 2 u R 0 (by omega)
            rw [e] at h3; omega
          rw [if_neg h2, if_neg e2]
          split at h
          · rename_i h5
            have e := digF_cut 8 3 (d :: u) R 0 (by simp only [List.cons_append, List.length_cons] at h ⊢; omega)
            rw [List.cons_append] at e
            rw [e, if_pos h5, if_pos h5]
          · rename_i h5
            have e := digF_cut 8 3 (d :: u) R 0 (by rw [List.cons_append]; omega)
            rw [List.cons_append] at e
            rw [e, if_neg h5, if_neg h5]
            split at h
            · rename_i h6
              have e := takeWhile_cut isBl u R (by simp only at h; omega)
              rw [e, if_pos h6]
            · rename_i h6
              rw [if_neg h6, if_neg h6]
    · rename_i hc
      rw [if_neg hc, if_neg hc]
theorem unesc_plain {c : UInt8} {r : Bs} (h : c ≠ 92) : unesc (c :: r) = ([], 0) := by
  unfold unesc
  split
  · rw [if_neg (fun e => h (by apply UInt8.toNat_inj.1; simpa using e))]
  · rw [if_neg (fun e => h (by cases e; rfl))]
theorem unescAll_lit {c : UInt8} {r : Bs} (h : c ≠ 92) : unescAll (c :: r) = c :: unescAll r := by
  rw [unescAll_zero (by simp) (by rw [unesc_plain h])]
  rfl
theorem unesc_take {s : Bs} {n m : Nat} (hn : n = (unesc s).2) : unesc (s.take (n + m)) = unesc s := by
  have h := unesc_len s
  have e := unesc_cut (s.take (n + m)) (s.drop (n + m)) (by rw [List.take_append_drop, List.length_take]; omega)
  rw [e, List.take_append_drop]
theorem bare_text : ∀ (n : Nat) (s : Bs), s.length ≤ n → (bare s).1 = unescAll (s.take (bare s).2) := by
  intro n
  induction n with
  | zero =>
    intro s h
    obtain rfl : s = [] := List.length_eq_zero_iff.1 (by omega)
    rfl
  | succ n ih =>
    intro s h
    cases s with
    | nil => rfl
    | cons c r =>
      by_cases hw : isW c = true
      · rw [bare_white hw]; rfl
      · have hw' : isW c = false := by simpa using hw
        by_cases hc : c = 92
        · have hp := unesc_pos (r := r) hc
          have hl := unesc_len (c :: r)
          rw [bare_esc hw' hc]
          simp only
          have i1 := ih ((c :: r).drop (unesc (c :: r)).2) (by simp at h hp ⊢; omega)
          rw [i1]
          obtain ⟨q, hq⟩ : ∃ q, unesc (c :: r) = q := ⟨_, rfl⟩
          generalize (bare ((c :: r).drop (unesc (c :: r)).2)).2 = m
          have e := unesc_take (s := c :: r) (n := (unesc (c :: r)).2) (m := m) rfl
          have hne : (c :: r).take ((unesc (c :: r)).2 + m) ≠ [] := by
            intro h0
            have := congrArg List.length h0
            simp at this hp; omega
          rw [unescAll_some hne (by rw [e]; omega), e]
          rw [List.drop_take, show (unesc (c :: r)).2 + m - (unesc (c :: r)).2 = m by omega]
        · rw [bare_lit hw' hc]
          simp only
          rw [List.take_succ_cons, unescAll_lit hc, ← ih r (by simp at h; omega)]
theorem quo_text : ∀ (n : Nat) (s : Bs), s.length ≤ n → ∀ t k, quo s = some (t, k) → 1 ≤ k ∧ t = unescAll (s.take (k - 1)) := by
  intro n
  induction n with
  | zero =>
    intro s h t k hk
    obtain rfl : s = [] := List.length_eq_zero_iff.1 (by omega)
    rw [quo_nil] at hk; cases hk
  | succ n ih =>
    intro s h t k hk
    cases s with
    | nil => rw [quo_nil] at hk; cases hk
    | cons c r =>
      by_cases h34 : c = 34
      · rw [quo_end h34] at hk; cases hk; exact ⟨Nat.le_refl _, rfl⟩
      · by_cases hc : c = 92
        · have hp := unesc_pos (r := r) hc
          rw [quo_esc hc] at hk
          cases hq : quo ((c :: r).drop (unesc (c :: r)).2) with
          | none => rw [hq] at hk; cases hk
          | some q =>
            rw [hq] at hk
            obtain ⟨i1, i2⟩ := ih ((c :: r).drop (unesc (c :: r)).2) (by simp at h hp ⊢; omega) q.1 q.2 hq
            simp only [Option.map_some, Option.some.injEq, Prod.mk.injEq] at hk
            obtain ⟨rfl, rfl⟩ := hk
            refine ⟨by omega, ?_⟩
            rw [i2, show (unesc (c :: r)).2 + q.2 - 1 = (unesc (c :: r)).2 + (q.2 - 1) by omega]
            generalize q.2 - 1 = m
            have e := unesc_take (s := c :: r) (n := (unesc (c :: r)).2) (m := m) rfl
            have hne : (c :: r).take ((unesc (c :: r)).2 + m) ≠ [] := by
              intro h0
              have := congrArg List.length h0
              simp at this hp; omega
            rw [unescAll_some hne (by rw [e]; omega), e]
            rw [List.drop_take, show (unesc (c :: r)).2 + m - (unesc (c :: r)).2 = m by omega]
        · rw [quo_lit h34 hc] at hk
          cases hq : quo r with
          | none => rw [hq] at hk; cases hk
          | some q =>
            rw [hq] at hk
            obtain ⟨i1, i2⟩ := ih r (by simp at h; omega) q.1 q.2 hq
            simp only [Option.map_some, Option.some.injEq, Prod.mk.injEq] at hk
            obtain ⟨rfl, rfl⟩ := hk
            refine ⟨by omega, ?_⟩
            obtain ⟨m, hm⟩ : ∃ m, q.2 = m + 1 := ⟨q.2 - 1, by omega⟩
            rw [i2, hm]
            show _ = unescAll ((c :: r).take (m + 1))
            rw [List.take_succ_cons, unescAll_lit hc]
            rfl
end Go.Proofs.YteojlmpipfajoaaGreatDoor
