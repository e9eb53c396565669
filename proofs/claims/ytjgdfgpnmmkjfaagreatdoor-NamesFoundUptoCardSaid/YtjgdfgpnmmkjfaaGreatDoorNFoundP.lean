/- The plain law of 'NamesFound': what the candidates of a name are. -/
import Derived.Test.YtjgdfgpnmmkjfaaGreatDoorNInv3
namespace Go.Proofs.YtjgdfgpnmmkjfaaGreatDoor
set_option linter.unusedVariables false
set_option linter.unusedSimpArgs false
open Go.RowKit Go.MapKept
theorem hasB_iff {L : List Bs} {x : Bs} : hasB L x = true ↔ x ∈ L := by
  unfold hasB
  rw [List.any_eq_true]
  constructor
  · rintro ⟨y, hy, e⟩
    rw [beq_iff_eq] at e
    exact e ▸ hy
  · intro h
    exact ⟨x, h, by simp⟩
theorem step_nodup {S : Bs → Option ND} {name p : Bs} {o : List Bs} (h : o.Nodup) : (candStep S name o p).Nodup := by
  unfold candStep
  split
  · rename_i hc
    rw [Bool.and_eq_true, Bool.not_eq_true'] at hc
    have hn : canonN p name ∉ o := fun hm => by
      have := hasB_iff.2 hm
      rw [this] at hc
      cases hc.2
    rw [List.nodup_append]
    refine ⟨h, by simp, ?_⟩
    intro a ha b hb e
    simp at hb
    subst hb
    exact hn (e ▸ ha)
  · exact h
theorem cand_nodup {S : Bs → Option ND} {name : Bs} : ∀ (ps : List Bs) (o : List Bs), o.Nodup → (ps.foldl (candStep S name) o).Nodup
  | [], o, h => h
  | p :: r, o, h => cand_nodup r _ (step_nodup h)
theorem cand_pre {S : Bs → Option ND} {name : Bs} : ∀ (ps : List Bs) (o : List Bs), ∃ t, ps.foldl (candStep S name) o = o ++ t
  | [], o => ⟨[], by simp⟩
  | p :: r, o => by
    obtain ⟨t, ht⟩ := cand_pre (S := S) (name := name) r (candStep S name o p)
    rw [List.foldl_cons, ht]
    unfold candStep
    split
    · exact ⟨[canonN p name] ++ t, by simp⟩
    · exact ⟨t, rfl⟩
theorem cand_from {S : Bs → Option ND} {name : Bs} : ∀ (ps : List Bs) (o : List Bs) (x : Bs), x ∈ ps.foldl (candStep S name) o → x ∈ o ∨ ∃ p ∈ ps, x = canonN p name
  | [], o, x, h => .inl h
  | p :: r, o, x, h => by
    rw [List.foldl_cons] at h
    rcases cand_from r _ x h with h | ⟨q, hq, e⟩
    · unfold candStep at h
      split at h
      · rw [List.mem_append, List.mem_singleton] at h
        rcases h with h | h
        · exact .inl h
        · exact .inr ⟨p, by simp, h⟩
      · exact .inl h
    · exact .inr ⟨q, by simp [hq], e⟩
/-- A relative name in a namespace. -/
theorem canon_top {p name : Bs} {l : List Bs} (hc : Cp p l) (ha : absN name = false) (h : canonN p name = canonN rootN name) : p = rootN := by
  rw [canon_root] at h
  unfold canonN at h
  rw [if_neg (by rw [ha]; simp)] at h
  have hpl : partsN p = l := by rw [hc.1]; exact parts_can l hc.2
  rw [hpl] at h
  have h1 : Cp (canN (l ++ partsN name)) (l ++ partsN name) := ⟨rfl, fun q hq => by
    rcases List.mem_append.1 hq with hq | hq
    · exact hc.2 q hq
    · exact parts_good name q hq⟩
  have h2 : Cp (canN (l ++ partsN name)) (partsN name) := ⟨h, parts_good name⟩
  have h3 := cp_inj h1 h2
  have h4 : l = [] := by
    have := congrArg List.length h3
    rw [List.length_append] at this
    exact List.length_eq_zero_iff.1 (by omega)
  rw [hc.1, h4]; rfl
theorem step_root {S : Bs → Option ND} (hr : (S rootN).isSome = true) (name : Bs) (o : List Bs) : candStep S name o rootN = if hasB o (canonN rootN name) = true then o else o ++ [canonN rootN name] := by
  unfold candStep
  rw [show canonN rootN rootN = rootN from by decide, hr]
  cases hasB o (canonN rootN name) <;> simp
structure FoundR (S : Bs → Option ND) (sp name : Bs) (search : List Bs) (c : List Bs) : Prop where
  nodup : c.Nodup
  first : ∃ r, c = canonN sp name :: r
  top : canonN rootN name ∈ c
  last : sp = rootN ∨ rootN ∈ search ∨ ∃ r, c = r ++ [canonN rootN name]
theorem found_plain {S : Bs → Option ND} {n : Nat} (hG : Gd S n) {sp name : Bs} {nd : ND} {l : List Bs} (hsp : S sp = some nd) (hc : Cp sp l) (ha : absN name = false) :
    FoundR S sp name nd.search (candL S name ([sp] ++ nd.search ++ [rootN])) := by
  have hroot : canonN rootN rootN = rootN := by decide
  have hfold : candL S name ([sp] ++ nd.search ++ [rootN]) = candStep S name (nd.search.foldl (candStep S name) [canonN sp name]) rootN := by
    unfold candL
    rw [List.foldl_append, List.foldl_append]
    simp only [List.foldl_cons, List.foldl_nil]
    have : candStep S name [] sp = [canonN sp name] := by
      unfold candStep
      rw [cp_self hc, hsp]
      simp [hasB]
    rw [this]
  obtain ⟨t, ht⟩ := cand_pre (S := S) (name := name) nd.search [canonN sp name]
  obtain ⟨t2, ht2⟩ := cand_pre (S := S) (name := name) [rootN] ([canonN sp name] ++ t)
  simp only [List.foldl_cons, List.foldl_nil] at ht2
  have hin : canonN rootN name ∈ candStep S name (nd.search.foldl (candStep S name) [canonN sp name]) rootN := by
    rw [step_root hG.root]
    split
    · rename_i hm; exact hasB_iff.1 hm
    · simp
  refine ⟨cand_nodup _ _ List.nodup_nil, ⟨t ++ t2, by rw [hfold, ht, ht2]; simp⟩, by rw [hfold]; exact hin, ?_⟩
  by_cases h1 : sp = rootN
  · exact .inl h1
  · by_cases h2 : rootN ∈ nd.search
    · exact .inr (.inl h2)
    · refine .inr (.inr ⟨nd.search.foldl (candStep S name) [canonN sp name], ?_⟩)
      rw [hfold]
      rw [step_root hG.root]
      have hm : hasB (nd.search.foldl (candStep S name) [canonN sp name]) (canonN rootN name) = false := by
        rw [← Bool.not_eq_true, hasB_iff]
        intro hm
        rcases cand_from _ _ _ hm with hm | ⟨p, hp, e⟩
        · rw [List.mem_singleton] at hm
          exact h1 (canon_top hc ha hm.symm)
        · obtain ⟨_, lp, hcp⟩ := (hG.srch _ _ hsp).2 p hp
          exact h2 (canon_top hcp ha e.symm ▸ hp)
      rw [if_neg (by rw [hm]; simp)]
end Go.Proofs.YtjgdfgpnmmkjfaaGreatDoor
