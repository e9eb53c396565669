/- The reference's reading of a text by a form: what its loops want, plain. -/
import Derived.Test.YtkahakhhdiffcaaGreatDoorCRdE
import Derived.Test.YtkahakhhdiffcaaGreatDoorCRdQ
import Derived.Test.YtkahakhhdiffcaaGreatDoorCRWrt
namespace Go.Proofs.YtkahakhhdiffcaaGreatDoor
set_option linter.unusedVariables false
set_option linter.unusedSimpArgs false
open Go.RowKit Go.Shelf
/-- Where a part lies in a form that was spread. -/
def offL (l : List Part) (k : Nat) : Nat := (flatL (l.take k)).length
theorem offL_zero (l : List Part) : offL l 0 = 0 := rfl
theorem offL_end (l : List Part) : offL l l.length = (flatL l).length := by unfold offL; rw [List.take_length]
theorem flat_split {l : List Part} {k : Nat} {p : Part} (h : l[k]? = some p) : flatL l = flatL (l.take k) ++ (flatQ p ++ flatL (l.drop (k + 1))) := by
  obtain ⟨h1, h2⟩ := List.getElem?_eq_some_iff.1 h
  conv => lhs; rw [← List.take_append_drop k l, List.drop_eq_getElem_cons h1, h2]
  rw [flatL_append, flatL_cons]
theorem offL_succ {l : List Part} {k : Nat} {p : Part} (h : l[k]? = some p) : offL l (k + 1) = offL l k + (flatQ p).length := by
  obtain ⟨h1, h2⟩ := List.getElem?_eq_some_iff.1 h
  unfold offL
  rw [List.take_add_one, h]
  show (flatL (l.take k ++ [p])).length = _
  rw [flatL_append, List.length_append, flatL_cons]
  simp [flatL]
theorem flat_get {l : List Part} {k : Nat} {p : Part} (h : l[k]? = some p) (j : Nat) (hj : j < (flatQ p).length) : (flatL l)[offL l k + j]? = (flatQ p)[j]? := by
  rw [flat_split h, List.getElem?_append_right (by unfold offL; omega)]
  unfold offL
  rw [show (flatL (l.take k)).length + j - (flatL (l.take k)).length = j by omega, List.getElem?_append_left hj]
/-- One part: where it lies, and what it is. -/
inductive Shp (f : Bs) (i i2 : Nat) (p : Part) : Prop
  | text (ch : UInt8) : p.2 = 0 → p.1 = [ch] → ch ≠ 37 → f[i]? = some ch → i2 = i + 1 → Shp f i i2 p
  | per : p.2 = 0 → p.1 = [37] → f[i]? = some 37 → f[i + 1]? = some 37 → i2 = i + 2 → Shp f i i2 p
  | lett : p.2 ≠ 0 → p.2 ≠ 37 → (info (p.2.toNat : Int)).isSome = true → f[i]? = some 37 → f[i + 1]? = some p.2 → i2 = i + 2 → Shp f i i2 p
theorem shp_at {l : List Part} (hg : ∀ p ∈ l, PG2 p) {k : Nat} {p : Part} (h : l[k]? = some p) : Shp (flatL l) (offL l k) (offL l (k + 1)) p := by
  have hs := offL_succ h
  have hget := flat_get h
  rcases hg p (List.mem_of_getElem? h) with ⟨h0, ch, h1⟩ | ⟨h0, h37, hi⟩
  · by_cases hc : ch = 37
    · subst hc
      have hq : flatQ p = [37, 37] := by unfold flatQ; rw [if_pos h0, if_pos h1]
      rw [hq] at hs hget
      exact .per h0 h1 (by simpa using hget 0 (by simp)) (by simpa using hget 1 (by simp)) hs
    · have hq : flatQ p = [ch] := by unfold flatQ; rw [if_pos h0, if_neg (by rw [h1]; simpa using hc), h1]
      rw [hq] at hs hget
      exact .text ch h0 h1 hc (by simpa using hget 0 (by simp)) hs
  · have hq : flatQ p = [37, p.2] := by unfold flatQ; rw [if_neg h0]
    rw [hq] at hs hget
    exact .lett h0 h37 hi (by simpa using hget 0 (by simp)) (by simpa using hget 1 (by simp)) hs
theorem letsL_append : ∀ a b : List Part, letsL (a ++ b) = letsL a ++ letsL b
  | [], b => rfl
  | p :: a, b => by
    have := letsL_append a b
    rw [List.cons_append, letsL, letsL]
    split
    · exact this
    · rw [this]; rfl
theorem letsL_succ {l : List Part} {k : Nat} {p : Part} (h : l[k]? = some p) : letsL (l.take (k + 1)) = letsL (l.take k) ++ (if p.2 = 0 then [] else [p.2]) := by
  rw [List.take_add_one, h]
  show letsL (l.take k ++ [p]) = _
  rw [letsL_append]
  congr 1
theorem lets_dup {l : List Part} {k : Nat} {p : Part} (h : l[k]? = some p) (h0 : p.2 ≠ 0) (hm : p.2 ∈ letsL (l.take k)) : ¬ (letsL l).Nodup := by
  intro hn
  have h1 : letsL l = letsL (l.take (k + 1)) ++ letsL (l.drop (k + 1)) := by rw [← letsL_append, List.take_append_drop]
  rw [h1, letsL_succ h, if_neg h0] at hn
  have h2 := (List.nodup_append.1 hn).1
  have h3 := (List.nodup_append.1 h2).2.2
  exact h3 p.2 hm p.2 (by simp) rfl
theorem lets_len : ∀ l : List Part, (letsL l).length ≤ l.length
  | [] => Nat.le_refl _
  | p :: l => by
    have := lets_len l
    unfold letsL
    split <;> simp <;> omega
theorem ixb (c : UInt8) : ∀ L : Bs, (c ∉ L ∧ Lib.indexByte L c = -1) ∨ (c ∈ L ∧ 0 ≤ Lib.indexByte L c ∧ Lib.indexByte L c ≤ L.length)
  | [] => .inl ⟨by simp, rfl⟩
  | q :: L => by
    rw [Lib.indexByte]
    cases h : (q == c) with
    | true => exact .inr ⟨by simp [eq_of_beq h], by simp, by simp; omega⟩
    | false =>
      have hne : c ≠ q := by rintro rfl; simp at h
      rcases ixb c L with ⟨h1, h2⟩ | ⟨h1, h2, h3⟩
      · refine .inl ⟨by simp [hne, h1], ?_⟩
        rw [h2]; rfl
      · refine .inr ⟨by simp [h1], ?_⟩
        have : (Lib.indexByte L c == -1) = false := by rw [beq_eq_false_iff_ne]; omega
        rw [this]
        simp
        omega
theorem readG_bound : ∀ (l : List Part) (s : Bs) (G : GotL) (s' : Bs) (G' : GotL), readG l s G = some (s', G') → G'.length ≤ G.length + l.length ∧ ∀ p ∈ G', p ∈ G ∨ p.2.length ≤ s.length
  | [], s, G, s', G', h => by
    injection h with h; injection h with h1 h2
    subst h2
    exact ⟨by simp, fun p hp => .inl hp⟩
  | q :: l, s, G, s', G', h => by
    unfold readG at h
    split at h
    · split at h
      · obtain ⟨h1, h2⟩ := readG_bound l _ _ _ _ h
        have h3 := trim_le s q.1
        refine ⟨by simp; omega, fun p hp => ?_⟩
        rcases h2 p hp with h4 | h4
        · exact .inl h4
        · exact .inr (by omega)
      · cases h
    · split at h
      · cases h
      · obtain ⟨h1, h2⟩ := readG_bound l _ _ _ _ h
        refine ⟨by simp at h1 ⊢; omega, fun p hp => ?_⟩
        rcases h2 p hp with h4 | h4
        · rcases List.mem_append.1 h4 with h5 | h5
          · exact .inl h5
          · simp at h5; subst h5; exact .inr (by simp; omega)
        · simp at h4; exact .inr (by omega)
/-- Of a text that was read: how many letters, and how long their texts are. -/
theorem readR_bound {s form : Bs} {G : GotL} (h : readR s form = some G) : G.length ≤ 5 * form.length ∧ ∀ p ∈ G, p.2.length ≤ s.length := by
  unfold readR at h
  cases hp : partsC form with
  | none => rw [hp] at h; cases h
  | some l =>
    rw [hp] at h
    simp only at h
    split at h
    · unfold endG at h
      cases hr : readG l s [] with
      | none => rw [hr] at h; cases h
      | some q =>
        obtain ⟨s', G'⟩ := q
        rw [hr] at h
        simp only at h
        split at h
        · injection h with h
          subst h
          obtain ⟨h1, h2⟩ := readG_bound l s [] s' G' hr
          have h3 := parts_len _ form (Nat.le_refl _) l hp
          refine ⟨by simp at h1; omega, fun p hp => ?_⟩
          rcases h2 p hp with h4 | h4
          · simp at h4
          · exact h4
        · cases h
    · cases h
theorem hasP_one (s : Bs) (ch : UInt8) : (Lib.hasPrefix s [ch] = true ∧ ∃ r, s = ch :: r ∧ Lib.trimPrefix s [ch] = r) ∨ (Lib.hasPrefix s [ch] = false ∧ (s = [] ∨ ∃ a r, s = a :: r ∧ a ≠ ch)) := by
  cases s with
  | nil => exact .inr ⟨rfl, .inl rfl⟩
  | cons a r =>
    by_cases h : a = ch
    · subst h
      have hp : Lib.hasPrefix (a :: r) [a] = true := by simp [Lib.hasPrefix, List.isPrefixOf]
      refine .inl ⟨hp, r, rfl, ?_⟩
      unfold Lib.trimPrefix
      rw [if_pos hp]
      rfl
    · refine .inr ⟨?_, .inr ⟨a, r, rfl, h⟩⟩
      simp [Lib.hasPrefix, List.isPrefixOf, Ne.symm h]
end Go.Proofs.YtkahakhhdiffcaaGreatDoor
