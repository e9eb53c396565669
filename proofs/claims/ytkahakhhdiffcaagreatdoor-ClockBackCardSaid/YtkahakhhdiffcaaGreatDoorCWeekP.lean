/- Weeks in plain Lean: the Thursday of a week, its year, its number, and the day that a week's number and a weekday tell. -/
import Derived.Test.YtkahakhhdiffcaaGreatDoorCPlain
namespace Go.Proofs.YtkahakhhdiffcaaGreatDoor
set_option linter.unusedVariables false
set_option linter.unusedSimpArgs false

/-- The day of a time, from 0 for the first one; its weekday; its day of the year; the Thursday of a day's week; a day's year. -/
def dayOf (t : Int) : Int := (t + 62135596800) / 86400
def wdC (t : Int) : Int := dayOf t % 7 + 1
noncomputable def ydC (t : Int) : Int := dayOf t - bef (dateC t).y + 1
def thC (t : Int) : Int := dayOf t + 4 - wdC t
noncomputable def yearOf (q : Int) : Int := (dateC (q * 86400 - 62135596800)).y
noncomputable def weekN (t : Int) : Int := (thC t - bef (yearOf (thC t))) / 7 + 1

theorem bef_one : bef 1 = 0 := by decide
theorem bef_1970 : bef 1970 = 719162 := by decide
theorem bef_10000 : bef 10000 = 3652059 := by decide
theorem date_day {t : Int} (h : -62135596800 ≤ t) : dayNo (dateC t).y (dateC t).m (dateC t).d = dayOf t := by
  obtain ⟨h1, h2⟩ := dateC_ok h
  have := h1.h0; have := h1.h1; have := h1.mi0; have := h1.mi1; have := h1.s0; have := h1.s1
  unfold DT.time at h2
  unfold dayOf
  omega
theorem year_in {t : Int} (h : -62135596800 ≤ t) : 1 ≤ (dateC t).y ∧ bef (dateC t).y ≤ dayOf t ∧ dayOf t < bef ((dateC t).y + 1) := by
  have h1 := date_day h
  have h2 := (dateC_ok h).1.date
  have h3 := dayNo_in h2
  have := h2.y1
  omega
theorem year_uniq {y z q : Int} (h1 : bef y ≤ q) (h2 : q < bef (y + 1)) (h3 : bef z ≤ q) (h4 : q < bef (z + 1)) : y = z := by
  rcases Int.lt_trichotomy y z with h | h | h
  · have := bef_far (show y + 1 ≤ z by omega); omega
  · exact h
  · have := bef_far (show z + 1 ≤ y by omega); omega
theorem day_mul (q : Int) : dayOf (q * 86400 - 62135596800) = q := by unfold dayOf; omega
theorem yearOf_in {q : Int} (h : 0 ≤ q) : 1 ≤ yearOf q ∧ bef (yearOf q) ≤ q ∧ q < bef (yearOf q + 1) := by
  have := year_in (t := q * 86400 - 62135596800) (by omega)
  rw [day_mul] at this
  exact this
theorem yearOf_is {q y : Int} (h : 0 ≤ q) (h1 : bef y ≤ q) (h2 : q < bef (y + 1)) : yearOf q = y := by
  have := yearOf_in h
  exact year_uniq this.2.1 this.2.2 h1 h2
theorem year_day {t : Int} (h : -62135596800 ≤ t) : (dateC t).y = yearOf (dayOf t) := by
  have h1 := year_in h
  exact (yearOf_is (by unfold dayOf; omega) h1.2.1 h1.2.2).symm
theorem year_le2 {q y : Int} (h : q < 3652059) (h1 : bef y ≤ q) : y ≤ 9999 := by
  rcases (show y ≤ 9999 ∨ 9999 < y by omega) with h2 | h2
  · exact h2
  · have := bef_far (show 10000 ≤ y by omega)
    rw [bef_10000] at this
    omega

/-- The first week's Thursday of a year. -/
def t1 (y : Int) : Int := bef y + 3 - (bef y + 3) % 7 + 3
theorem t1_in (y : Int) : bef y ≤ t1 y ∧ t1 y ≤ bef y + 6 ∧ t1 y % 7 = 3 := by unfold t1; omega
theorem th_in (t : Int) : thC t % 7 = 3 ∧ thC t ≤ dayOf t + 3 ∧ dayOf t - 3 ≤ thC t ∧ thC t - 3 + wdC t - 1 = dayOf t ∧ 1 ≤ wdC t ∧ wdC t ≤ 7 := by unfold thC wdC; omega
theorem th_le {t : Int} (h : -62135596800 ≤ t) (h2 : t ≤ 253402300799) : 0 ≤ thC t ∧ thC t < 3652059 := by unfold thC wdC dayOf; omega

/-- What both 'OfWeek's tell. -/
def ofWeekC (y n wd : Int) : Int × Int :=
  if 1 ≤ y ∧ y ≤ 9999 ∧ 1 ≤ n ∧ n ≤ 53 ∧ 1 ≤ wd ∧ wd ≤ 7 ∧ t1 y + 7 * (n - 1) < bef (y + 1) ∧ (t1 y - 3 + 7 * (n - 1) + wd - 1) < 3652059 then ((t1 y - 3 + 7 * (n - 1) + wd - 1) * 86400 - 62135596800, 0) else (0, 7)
theorem ofWeek_back {t : Int} (h : -62135596800 ≤ t) (h2 : t ≤ 253402300799) : ofWeekC (yearOf (thC t)) (weekN t) (wdC t) = (dayOf t * 86400 - 62135596800, 0) := by
  have a := th_in t
  have b := th_le h h2
  have c := yearOf_in b.1
  have d := year_le2 b.2 c.2.1
  have e := t1_in (yearOf (thC t))
  have f := bef_far (show yearOf (thC t) ≤ yearOf (thC t) + 1 by omega)
  have hq : dayOf t < 3652059 := by unfold dayOf; omega
  have hn : t1 (yearOf (thC t)) + 7 * (weekN t - 1) = thC t := by unfold weekN; omega
  have hn1 : 1 ≤ weekN t := by unfold weekN; omega
  have hn2 : weekN t ≤ 53 := by unfold weekN; omega
  unfold ofWeekC
  rw [if_pos ⟨c.1, d, hn1, hn2, a.2.2.2.2.1, a.2.2.2.2.2, by omega, by omega⟩]
  rw [show t1 (yearOf (thC t)) - 3 + 7 * (weekN t - 1) + wdC t - 1 = dayOf t by omega]
/-- The program's test of a week's number. -/
theorem week_there {y n : Int} (h : 1 ≤ y) (hn : 1 ≤ n) : (yearOf (t1 y + 7 * (n - 1)) = y ∧ (t1 y + 7 * (n - 1) - bef (yearOf (t1 y + 7 * (n - 1)))) / 7 + 1 = n) ↔ t1 y + 7 * (n - 1) < bef (y + 1) := by
  have a := t1_in y
  have b := bef_far h
  rw [bef_one] at b
  have c := yearOf_in (q := t1 y + 7 * (n - 1)) (by omega)
  constructor
  · rintro ⟨h1, -⟩
    rw [h1] at c
    exact c.2.2
  · intro h1
    have h2 := yearOf_is (q := t1 y + 7 * (n - 1)) (y := y) (by omega) (by omega) h1
    rw [h2]
    exact ⟨rfl, by omega⟩
/-- The reference's: the week of December 28. -/
theorem week_most {y n t : Int} (h : 1 ≤ y) (hd : dayOf t = bef (y + 1) - 4) : n ≤ weekN t ↔ t1 y + 7 * (n - 1) < bef (y + 1) := by
  have a := t1_in y
  have b := bef_far h
  rw [bef_one] at b
  have c := th_in t
  have f := bef_next y
  have g := leap1_le y
  have e := yearOf_is (q := thC t) (y := y) (by omega) (by omega) (by omega)
  unfold weekN
  rw [e]
  omega
end Go.Proofs.YtkahakhhdiffcaaGreatDoor
