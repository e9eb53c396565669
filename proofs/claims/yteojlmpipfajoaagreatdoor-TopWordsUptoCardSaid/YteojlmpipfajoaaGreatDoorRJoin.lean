/- The reference's list: Join. The reference's dictionaries: Canonical. -/
import Derived.Test.YteojlmpipfajoaaGreatDoorRQuoteM
namespace Go.Proofs.YteojlmpipfajoaaGreatDoor
set_option linter.unusedVariables false
set_option linter.unusedSimpArgs false
open Go.RowKit

/-- Two texts put together: a name that no lemma lays open. -/
def cat (a b : Bs) : Bs := a ++ b
theorem ba_cat (a b : Bs) : (⟨a.toArray⟩ : ByteArray) ++ ⟨b.toArray⟩ = ⟨(cat a b).toArray⟩ := ba_append a b
theorem cat_len (a b : Bs) : (cat a b).length = a.length + b.length := List.length_append
end Go.Proofs.YteojlmpipfajoaaGreatDoor
namespace Go.Proofs.YteojlmpipfajoaaGreatDoor
set_option linter.unusedVariables false
set_option linter.unusedSimpArgs false
open Go.RowKit

theorem mem_flat : ∀ {ps : Prs} {x : Bs}, x ∈ flatP ps → ∃ p ∈ ps, x = p.1 ∨ x = p.2
  | [], x, h => by cases h
  | p :: r, x, h => by
    simp only [flatP, List.mem_cons] at h
    rcases h with h | h | h
    · exact ⟨p, by simp, .inl h⟩
    · exact ⟨p, by simp, .inr h⟩
    · obtain ⟨q, h1, h2⟩ := mem_flat h
      exact ⟨q, List.mem_cons_of_mem _ h1, h2⟩
theorem read_flat {s : Bs} {ps : Prs} (h : readC s = some ps) : ∀ x ∈ flatP ps, x.length ≤ s.length := by
  intro x hx
  obtain ⟨p, hp, e⟩ := mem_flat hx
  have := read_mem h hp
  rcases e with rfl | rfl
  · exact this.1
  · exact this.2
end Go.Proofs.YteojlmpipfajoaaGreatDoor
