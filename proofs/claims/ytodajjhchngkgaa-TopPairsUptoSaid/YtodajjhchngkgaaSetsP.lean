/- DictSets: the plain law. -/
import Derived.Test.YtodajjhchngkgaaBook18
namespace Go.Proofs.Ytodajjhchngkgaa
set_option linter.unusedVariables false
set_option linter.unusedSimpArgs false

theorem get_set (ps : Prs) (k v : Bs) : getP (setP ps k v) k = some v := by
  induction ps with
  | nil => simp [setP, getP]
  | cons p r ih =>
    rw [setP]
    split
    · simp [getP]
    · rename_i h; rw [getP, if_neg h, ih]
theorem set_keeps : ∀ (ps : Prs) (k v : Bs) (j : Nat) (h : j < ps.length), ∃ h' : j < (setP ps k v).length, (setP ps k v)[j].1 = ps[j].1 ∧ (ps[j].1 = k ∨ (setP ps k v)[j].2 = ps[j].2)
  | p :: r, k, v, 0, _ => by
    by_cases hp : p.1 = k
    · simp [setP, hp]
    · simp [setP, hp]
  | p :: r, k, v, j + 1, h => by
    have hj : j < r.length := by simp at h; omega
    by_cases hp : p.1 = k
    · simp only [setP, hp, if_true]
      exact ⟨by simp; omega, by simp, .inr (by simp)⟩
    · obtain ⟨h1, h2, h3⟩ := set_keeps r k v j hj
      simp only [setP, hp, if_false]
      exact ⟨by simp; omega, by simpa using h2, by simpa using h3⟩
theorem set_back {ps : Prs} {k v : Bs} (h : (setP ps k v).length ≠ ps.length) : (setP ps k v).filter (fun p => p.1 != k) = ps := by
  induction ps with
  | nil => simp [setP]
  | cons p r ih =>
    rw [setP] at h ⊢
    by_cases hp : p.1 = k
    · rw [if_pos hp] at h; simp at h
    · rw [if_neg hp] at h ⊢
      have := ih (by simpa using h)
      rw [List.filter_cons, this]
      simp [hp]
theorem sets_ok {s key value : Bs} {ps : Prs} (hr : readC s = some ps) (hl : s.length + key.length + value.length ≤ 1500) :
    setC s [key] value = (joinL (flatP (setP ps key value)), 0) ∧ readC (joinL (flatP (setP ps key value))) = some (setP ps key value) ∧ (joinL (flatP (setP ps key value))).length ≤ 19999 := by
  have h1 := read_wt hr
  have h2 := read_len hr
  have h3 := set_wt ps key value
  have h4 := join_len (flatP (setP ps key value))
  have h5 := setP_len ps key value
  have h6 : wt [key, value] ≤ 2 * key.length + 2 * value.length + 20 := by simp only [wt]; omega
  have h7 := flatP_len (setP ps key value)
  refine ⟨?_, read_join (set_uniq (read_uniq hr) key value), by omega⟩
  unfold setC
  have hw : walkC s [key] = 0 := by unfold walkC; rw [hr]
  rw [if_pos hw, putC, chgE, hr]
  simp only [putC, if_true]
  rw [joinE_ok (by omega) (by omega)]
end Go.Proofs.Ytodajjhchngkgaa
