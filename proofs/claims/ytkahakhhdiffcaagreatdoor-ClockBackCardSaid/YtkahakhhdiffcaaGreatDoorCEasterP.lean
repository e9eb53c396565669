/- Easter in plain Lean: both ways to reckon it tell the same Sunday, from March 22 to April 25, in each year from 1 to 9999. -/
import Derived.Test.YtkahakhhdiffcaaGreatDoorCPlain
namespace Go.Proofs.YtkahakhhdiffcaaGreatDoor
set_option linter.unusedVariables false
set_option linter.unusedSimpArgs false

/-- The month and the day, as the program reckons them. -/
def eG (b : Int) : Int := (8 * b + 13) / 25
def eH (y : Int) : Int := (19 * (y % 19) + y / 100 - y / 100 / 4 - eG (y / 100) + 15) % 30
def eL (y : Int) : Int := (32 + 2 * (y / 100 % 4) + 2 * (y % 100 / 4) - eH y - y % 100 % 4) % 7
def eQ (y : Int) : Int := (y % 19 + 11 * eH y + 19 * eL y) / 433
def eMonth (y : Int) : Int := (eH y + eL y - 7 * eQ y + 90) / 25
def eDom (y : Int) : Int := (eH y + eL y - 7 * eQ y + 33 * eMonth y + 19) % 32
/-- The day of the full moon, as the reference reckons it. -/
def eEpact0 (y : Int) : Int := (11 * (y % 19 + 1) + 20 + ((8 * (y / 100 + 1) + 5) / 25 - 5) - (3 * (y / 100 + 1) / 4 - 12)).tmod 30
def eEpact1 (y : Int) : Int := if eEpact0 y < 0 then eEpact0 y + 30 else eEpact0 y
def eEpact (y : Int) : Int := if eEpact1 y = 25 ∧ y % 19 + 1 > 11 ∨ eEpact1 y = 24 then eEpact1 y + 1 else eEpact1 y
def eFull (y : Int) : Int := if 44 - eEpact y < 21 then 74 - eEpact y else 44 - eEpact y

def eChk (y : Int) : Bool :=
  let q := dayNo y 3 1 + eFull y - 1
  (eMonth y == 3 && decide (22 ≤ eDom y) && decide (eDom y ≤ 31) || eMonth y == 4 && decide (1 ≤ eDom y) && decide (eDom y ≤ 25)) && dayNo y (eMonth y) (eDom y) == q + (7 - (q % 7 + 1) % 7) && decide (21 ≤ eFull y) && decide (eFull y ≤ 50)
def allR (p : Nat → Bool) : Nat → Nat → Bool
  | 0, lo => p lo
  | k + 1, lo => allR p k lo && allR p k (lo + 2 ^ k)
theorem allR_at (p : Nat → Bool) : ∀ k lo, allR p k lo = true → ∀ n, lo ≤ n → n < lo + 2 ^ k → p n = true
  | 0, lo, h, n, h1, h2 => by
    have : n = lo := by simp at h2; omega
    subst this; exact h
  | k + 1, lo, h, n, h1, h2 => by
    simp only [allR, Bool.and_eq_true] at h
    rcases Nat.lt_or_ge n (lo + 2 ^ k) with h3 | h3
    · exact allR_at p k lo h.1 n h1 h3
    · exact allR_at p k (lo + 2 ^ k) h.2 n h3 (by rw [Nat.pow_succ] at h2; omega)
set_option maxRecDepth 100000 in
theorem eChk_all : allR (fun n => decide (n = 0 ∨ 9999 < n) || eChk (n : Int)) 14 0 = true := by decide +kernel
theorem eChk_at {y : Int} (h1 : 1 ≤ y) (h2 : y ≤ 9999) : eChk y = true := by
  obtain ⟨n, rfl⟩ : ∃ n : Nat, y = n := ⟨y.toNat, by omega⟩
  have := allR_at _ 14 0 eChk_all n (by omega) (by omega)
  simp only [Bool.or_eq_true, decide_eq_true_eq] at this
  rcases this with h | h
  · omega
  · exact h
theorem easter_law {y : Int} (h1 : 1 ≤ y) (h2 : y ≤ 9999) :
    (eMonth y = 3 ∧ 22 ≤ eDom y ∧ eDom y ≤ 31 ∨ eMonth y = 4 ∧ 1 ≤ eDom y ∧ eDom y ≤ 25) ∧ dayNo y (eMonth y) (eDom y) = dayNo y 3 1 + eFull y - 1 + (7 - ((dayNo y 3 1 + eFull y - 1) % 7 + 1) % 7) ∧ 21 ≤ eFull y ∧ eFull y ≤ 50 := by
  have h := eChk_at h1 h2
  simp only [eChk, Bool.and_eq_true, Bool.or_eq_true, beq_iff_eq, decide_eq_true_eq] at h
  obtain ⟨⟨⟨a, b⟩, c⟩, d⟩ := h
  refine ⟨?_, b, c, d⟩
  rcases a with a | a
  · exact .inl ⟨a.1.1, a.1.2, a.2⟩
  · exact .inr ⟨a.1.1, a.1.2, a.2⟩
end Go.Proofs.YtkahakhhdiffcaaGreatDoor
