/- DictAlike: the plain law. -/
import Derived.Test.YtpaffocniniakaaBook15
namespace Go.Proofs.Ytpaffocniniakaa
set_option linter.unusedVariables false
set_option linter.unusedSimpArgs false

theorem alikeC_symm (a b : Bs) : alikeC a b = alikeC b a := by
  unfold alikeC
  cases ha : readC a with
  | none => cases readC b <;> rfl
  | some x =>
    cases hb : readC b with
    | none => rfl
    | some y => exact alike_symm (read_uniq ha) (read_uniq hb)
theorem alikeC_trans {a b c : Bs} (h1 : alikeC a b = true) (h2 : alikeC b c = true) : alikeC a c = true := by
  unfold alikeC at *
  cases ha : readC a with
  | none => rw [ha] at h1; cases h1
  | some x =>
    cases hb : readC b with
    | none => rw [ha, hb] at h1; cases h1
    | some y =>
      cases hc : readC c with
      | none => rw [hb, hc] at h2; cases h2
      | some z =>
        rw [ha, hb] at h1
        rw [hb, hc] at h2
        exact alike_trans (read_uniq hb) (read_uniq hc) h1 h2
theorem joinE_two {ss : List Bs} (h : (joinE ss).2 = 0) : (joinE ss).1 = joinL ss := by
  unfold joinE at *
  split
  · rfl
  · rename_i h'; rw [if_neg h'] at h; cases h
theorem joinE_len (ss : List Bs) : (joinE ss).1.length ≤ wt ss := by
  unfold joinE
  split
  · exact join_len ss
  · exact Nat.zero_le _
theorem canonC_len (a : Bs) : (canonC a).1.length ≤ 5 * a.length := by
  unfold canonC
  cases h : readC a with
  | none => exact Nat.zero_le _
  | some x => exact Nat.le_trans (joinE_len _) (read_wt h)
theorem canonC_alike {a : Bs} (h : (canonC a).2 = 0) : alikeC a (canonC a).1 = true := by
  unfold canonC alikeC at *
  cases ha : readC a with
  | none => rw [ha] at h; cases h
  | some x =>
    rw [ha] at h
    simp only at h ⊢
    rw [joinE_two h, read_join (read_uniq ha)]
    exact alike_self (read_uniq ha)
theorem merge_two (a b : Bs) : mergeE [a, b] = (match readC a, readC b with | some A, some B => joinE (flatP (addP A B)) | _, _ => ([], 11)) := by
  unfold mergeE
  simp only [mergeL]
  cases ha : readC a with
  | none => rfl
  | some A =>
    cases hb : readC b with
    | none => rfl
    | some B => simp only [Option.bind_some]; rw [add_self (read_uniq ha)]
theorem merge_len (a b : Bs) : (mergeE [a, b]).1.length ≤ 5 * a.length + 5 * b.length := by
  rw [merge_two]
  cases ha : readC a with
  | none => exact Nat.zero_le _
  | some A =>
    cases hb : readC b with
    | none => exact Nat.zero_le _
    | some B =>
      have h1 := read_wt ha
      have h2 := read_wt hb
      have h3 := add_wt A B
      have h4 := joinE_len (flatP (addP A B))
      simp only
      omega
theorem merge_read {a b : Bs} (h : (mergeE [a, b]).2 = 0) : ∃ A B, readC a = some A ∧ readC b = some B ∧ readC (mergeE [a, b]).1 = some (addP A B) := by
  rw [merge_two] at *
  cases ha : readC a with
  | none => rw [ha] at h; cases h
  | some A =>
    cases hb : readC b with
    | none => rw [ha, hb] at h; cases h
    | some B =>
      rw [ha, hb] at h
      refine ⟨A, B, rfl, rfl, ?_⟩
      simp only at h ⊢
      rw [joinE_two h, read_join (add_uniq (read_uniq ha) B)]
theorem merge_assoc {a b c : Bs} (h1 : (mergeE [a, b]).2 = 0) (h2 : (mergeE [b, c]).2 = 0) : mergeE [(mergeE [a, b]).1, c] = mergeE [a, (mergeE [b, c]).1] := by
  obtain ⟨A, B, ha, hb, hab⟩ := merge_read h1
  obtain ⟨B', C, hb', hc, hbc⟩ := merge_read h2
  rw [hb] at hb'
  cases hb'
  rw [merge_two (mergeE [a, b]).1 c, merge_two a (mergeE [b, c]).1, hab, hc, ha, hbc]
  simp only
  rw [add_assoc (read_uniq hb)]
end Go.Proofs.Ytpaffocniniakaa
