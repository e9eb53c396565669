/- How the reference's commands go with the program's, in plain Lean. -/
import Derived.Test.YtbbbenjakjejmaaGreatTbRep2
import Derived.Test.YtbbbenjakjejmaaGreatTbActs
namespace Go.Proofs.YtbbbenjakjejmaaGreat
set_option linter.unusedVariables false
set_option linter.unusedSimpArgs false
structure Sim (S : TS) (l : List RC) : Prop where
  len : l.length = S.last
  cm : ∀ i r, l[i]? = some r → (r.there = true → ∃ c, S.cm (i + 1) = some c ∧ c.name = r.name ∧ c.hid = r.hid ∧ c.org = r.org) ∧ (r.there = false → S.cm (i + 1) = none)
theorem sim_new : Sim newT [] := ⟨rfl, fun i r h => by simp at h⟩
section
variable {S : TS} {l : List RC}
theorem Sim.at_ (h : Sim S l) (hW : WF S) {n : Nat} {c : Cm} (hc : S.cm n = some c) : ∃ i r, n = i + 1 ∧ l[i]? = some r ∧ r.there = true ∧ c.name = r.name ∧ c.hid = r.hid ∧ c.org = r.org := by
  have hp := hW.pos n c hc
  have hl := h.len
  obtain ⟨i, rfl⟩ : ∃ i, n = i + 1 := ⟨n - 1, by omega⟩
  have hi : i < l.length := by omega
  have hr : l[i]? = some l[i] := List.getElem?_eq_getElem hi
  cases ht : l[i].there with
  | false => have := (h.cm i _ hr).2 ht; rw [hc] at this; cases this
  | true =>
    obtain ⟨d, hd, h1, h2, h3⟩ := (h.cm i _ hr).1 ht
    rw [hc] at hd
    cases hd
    exact ⟨i, _, rfl, hr, ht, h1, h2, h3⟩
/-- Whether a command of the reference is the one of a name. -/
def hitR (name : Bs) (hid : Bool) (r : RC) : Prop := r.there = true ∧ r.hid = hid ∧ r.name = name
theorem Sim.hit (h : Sim S l) (hW : WF S) {i : Nat} {r : RC} (hi : l[i]? = some r) {name : Bs} {hid : Bool} (hh : hitR name hid r) : S.nm hid name = some (i + 1) := by
  obtain ⟨h1, h2, h3⟩ := hh
  obtain ⟨c, hc, q1, q2, _⟩ := (h.cm i r hi).1 h1
  exact (hW.names _ _ _).2 ⟨c, hc, q1.trans h3, q2.trans h2⟩
theorem Sim.miss (h : Sim S l) (hW : WF S) {name : Bs} {hid : Bool} (hh : ∀ (i : Nat) (r : RC), l[i]? = some r → ¬ hitR name hid r) : S.nm hid name = none := by
  cases hn : S.nm hid name with
  | none => rfl
  | some n =>
    obtain ⟨c, hc, h1, h2⟩ := (hW.names _ _ _).1 hn
    obtain ⟨i, r, rfl, hi, ht, e1, e2, _⟩ := h.at_ hW hc
    exact absurd ⟨ht, e2.symm.trans h2, e1.symm.trans h1⟩ (hh i r hi)
theorem num_nat {S : TS} {n : Nat} : S.num (n : Int) = if (S.cm n).isSome = true then some n else none := by
  unfold TS.num
  simp
theorem num_neg {S : TS} {i : Int} (h : i < 1) (hW : WF S) : S.num i = none := by
  cases hn : S.num i with
  | none => rfl
  | some n =>
    obtain ⟨h1, c, hc⟩ := num_some hn
    have := (hW.pos n c hc).1
    omega
theorem Sim.num_past (h : Sim S l) {i : Int} (hi : (l.length : Int) < i) (hW : WF S) : S.num i = none := by
  cases hn : S.num i with
  | none => rfl
  | some n =>
    obtain ⟨h1, c, hc⟩ := num_some hn
    have := (hW.pos n c hc).2
    have := h.len
    omega
theorem Sim.num_at (h : Sim S l) {i : Nat} {r : RC} (hi : l[i]? = some r) : S.num ((i + 1 : Nat) : Int) = if r.there = true then some (i + 1) else none := by
  rw [num_nat]
  cases ht : r.there with
  | false => rw [(h.cm i r hi).2 ht]; rfl
  | true => obtain ⟨c, hc, _⟩ := (h.cm i r hi).1 ht; rw [hc]; rfl
end
end Go.Proofs.YtbbbenjakjejmaaGreat
