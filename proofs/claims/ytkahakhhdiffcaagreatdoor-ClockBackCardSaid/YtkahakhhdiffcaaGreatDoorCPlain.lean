/- Dates and times in plain Lean: the lengths of months, the numbers of days, and that each time has one date. -/
import Derived.WalkKit
namespace Go.Proofs.YtkahakhhdiffcaaGreatDoor
set_option linter.unusedVariables false
set_option linter.unusedSimpArgs false

/-- Leap years, lengths of months, days before a year and before a month of it. -/
def leapI (y : Int) : Bool := decide (y % 4 = 0 ∧ (y % 100 ≠ 0 ∨ y % 400 = 0))
def dim (y m : Int) : Int := if m = 2 then (if leapI y = true then 29 else 28) else if m = 4 ∨ m = 6 ∨ m = 9 ∨ m = 11 then 30 else 31
def bef (y : Int) : Int := 365 * (y - 1) + (y - 1) / 4 - (y - 1) / 100 + (y - 1) / 400
def leap1 (y : Int) : Int := if leapI y = true then 1 else 0
def cum (y m : Int) : Int :=
  if m ≤ 1 then 0 else if m = 2 then 31 else leap1 y + (if m = 3 then 59 else if m = 4 then 90 else if m = 5 then 120 else if m = 6 then 151 else if m = 7 then 181 else if m = 8 then 212 else if m = 9 then 243 else if m = 10 then 273 else if m = 11 then 304 else if m = 12 then 334 else 365)
def dayNo (y m d : Int) : Int := bef y + cum y m + (d - 1)
structure DateOk (y m d : Int) : Prop where
  y1 : 1 ≤ y
  m1 : 1 ≤ m
  m12 : m ≤ 12
  d1 : 1 ≤ d
  dn : d ≤ dim y m

theorem leapI_iff (y : Int) : leapI y = true ↔ (y % 4 = 0 ∧ (y % 100 ≠ 0 ∨ y % 400 = 0)) := by simp [leapI]
theorem leap1_le (y : Int) : 0 ≤ leap1 y ∧ leap1 y ≤ 1 := by unfold leap1; split <;> omega
theorem bef_next (y : Int) : bef (y + 1) = bef y + 365 + leap1 y := by
  unfold leap1 bef
  split
  · rename_i h; rw [leapI_iff] at h; omega
  · rename_i h; rw [leapI_iff] at h; omega
theorem bef_far {y z : Int} (h : y ≤ z) : bef y + 365 * (z - y) ≤ bef z ∧ bef z ≤ bef y + 366 * (z - y) := by
  obtain ⟨k, rfl⟩ : ∃ k : Nat, z = y + k := ⟨(z - y).toNat, by omega⟩
  clear h
  induction k with
  | zero => simp
  | succ k ih =>
    have h1 := bef_next (y + k)
    have h2 := leap1_le (y + k)
    rw [show y + ((k + 1 : Nat) : Int) = y + k + 1 by push_cast; omega, h1]
    omega
theorem m_cases {m : Int} (h1 : 1 ≤ m) (h2 : m ≤ 12) : m = 1 ∨ m = 2 ∨ m = 3 ∨ m = 4 ∨ m = 5 ∨ m = 6 ∨ m = 7 ∨ m = 8 ∨ m = 9 ∨ m = 10 ∨ m = 11 ∨ m = 12 := by omega
theorem cum_next (y : Int) {m : Int} (h1 : 1 ≤ m) (h2 : m ≤ 12) : cum y (m + 1) = cum y m + dim y m := by
  rcases m_cases h1 h2 with rfl | rfl | rfl | rfl | rfl | rfl | rfl | rfl | rfl | rfl | rfl | rfl <;> simp [cum, dim, leap1] <;> split <;> rfl
theorem dim_ge (y m : Int) : 28 ≤ dim y m ∧ dim y m ≤ 31 := by
  unfold dim
  by_cases h : m = 2
  · rw [if_pos h]; split <;> omega
  · rw [if_neg h]; split <;> omega
theorem cum_mono (y : Int) {m n : Int} (h1 : 1 ≤ m) (h : m ≤ n) (h2 : n ≤ 13) : cum y m ≤ cum y n := by
  obtain ⟨k, rfl⟩ : ∃ k : Nat, n = m + k := ⟨(n - m).toNat, by omega⟩
  clear h
  induction k with
  | zero => simp
  | succ k ih =>
    have h3 := cum_next y (m := m + k) (by omega) (by push_cast at h2; omega)
    have h4 := dim_ge y (m + k)
    have h5 := ih (by push_cast at h2; omega)
    rw [show m + ((k + 1 : Nat) : Int) = m + k + 1 by push_cast; omega, h3]
    omega
theorem cum_one (y : Int) : cum y 1 = 0 := rfl
theorem cum_13 (y : Int) : cum y 13 = 365 + leap1 y := by simp [cum]; omega
theorem dayNo_in {y m d : Int} (h : DateOk y m d) : bef y + cum y m ≤ dayNo y m d ∧ dayNo y m d < bef y + cum y (m + 1) ∧ bef y ≤ dayNo y m d ∧ dayNo y m d < bef (y + 1) := by
  have h1 := cum_next y h.m1 h.m12
  have h2 := h.d1
  have h3 := h.dn
  have hm1 := h.m1
  have hm12 := h.m12
  have h4 := cum_mono y (m := 1) (n := m) (by omega) (by omega) (by omega)
  have h5 := cum_mono y (m := m + 1) (n := 13) (by omega) (by omega) (by omega)
  rw [cum_13] at h5
  rw [cum_one] at h4
  rw [bef_next]
  unfold dayNo
  omega
theorem dayNo_inj {y m d y' m' d' : Int} (h : DateOk y m d) (h' : DateOk y' m' d') (he : dayNo y m d = dayNo y' m' d') : y = y' ∧ m = m' ∧ d = d' := by
  have a := dayNo_in h
  have b := dayNo_in h'
  have hy : y = y' := by
    rcases Int.lt_trichotomy y y' with h1 | h1 | h1
    · have := bef_far (show y + 1 ≤ y' by omega); omega
    · exact h1
    · have := bef_far (show y' + 1 ≤ y by omega); omega
  subst hy
  have q1 := h.m1; have q2 := h.m12; have q3 := h'.m1; have q4 := h'.m12
  have hm : m = m' := by
    rcases Int.lt_trichotomy m m' with h1 | h1 | h1
    · have := cum_mono y (m := m + 1) (n := m') (by omega) (by omega) (by omega); omega
    · exact h1
    · have := cum_mono y (m := m' + 1) (n := m) (by omega) (by omega) (by omega); omega
  subst hm
  refine ⟨rfl, rfl, ?_⟩
  unfold dayNo at he
  omega
theorem date_ex (n : Nat) : ∃ y m d, DateOk y m d ∧ dayNo y m d = n := by
  induction n with
  | zero => exact ⟨1, 1, 1, ⟨by omega, by omega, by omega, by omega, by decide⟩, by decide⟩
  | succ n ih =>
    obtain ⟨y, m, d, h, he⟩ := ih
    have c := cum_next y h.m1 h.m12
    have h1 := h.y1; have h2 := h.m1; have h3 := h.m12; have h4 := h.d1; have h5 := h.dn
    by_cases hd : d < dim y m
    · exact ⟨y, m, d + 1, ⟨h1, h2, h3, by omega, by omega⟩, by unfold dayNo at *; push_cast; omega⟩
    · by_cases hm : m < 12
      · exact ⟨y, m + 1, 1, ⟨h1, by omega, by omega, by omega, by have := dim_ge y (m + 1); omega⟩, by unfold dayNo at *; push_cast; omega⟩
      · have hm2 : m = 12 := by omega
        subst hm2
        have c13 := cum_13 y
        exact ⟨y + 1, 1, 1, ⟨by omega, by omega, by omega, by omega, by have := dim_ge (y + 1) 1; omega⟩, by
          have := bef_next y
          unfold dayNo at *
          rw [cum_one]
          push_cast
          rw [show (12 : Int) + 1 = 13 from rfl] at c
          omega⟩

/-- A date with its time of day. -/
structure DT where
  y : Int
  m : Int
  d : Int
  h : Int
  mi : Int
  s : Int
def DT.time (D : DT) : Int := (dayNo D.y D.m D.d - 719162) * 86400 + D.h * 3600 + D.mi * 60 + D.s
structure DT.Ok (D : DT) : Prop where
  date : DateOk D.y D.m D.d
  h0 : 0 ≤ D.h
  h1 : D.h ≤ 23
  mi0 : 0 ≤ D.mi
  mi1 : D.mi ≤ 59
  s0 : 0 ≤ D.s
  s1 : D.s ≤ 59
theorem DT.inj {D E : DT} (h : D.Ok) (h' : E.Ok) (he : D.time = E.time) : D = E := by
  have := h.h0; have := h.h1; have := h.mi0; have := h.mi1; have := h.s0; have := h.s1
  have := h'.h0; have := h'.h1; have := h'.mi0; have := h'.mi1; have := h'.s0; have := h'.s1
  unfold DT.time at he
  have h1 := dayNo_inj h.date h'.date (by omega)
  have h2 : dayNo D.y D.m D.d = dayNo E.y E.m E.d := by omega
  have h3 : D.h = E.h := by omega
  have h4 : D.mi = E.mi := by omega
  have h5 : D.s = E.s := by omega
  cases D; cases E
  simp only at *
  obtain ⟨rfl, rfl, rfl⟩ := h1
  subst h3 h4 h5
  rfl
theorem DT.ex (t : Int) (h : -62135596800 ≤ t) : ∃ D : DT, D.Ok ∧ D.time = t := by
  obtain ⟨y, m, d, hd, he⟩ := date_ex ((t + 62135596800) / 86400).toNat
  refine ⟨⟨y, m, d, t % 86400 / 3600, t % 86400 / 60 % 60, t % 86400 % 60⟩, ⟨hd, ?_, ?_, ?_, ?_, ?_, ?_⟩, ?_⟩
  all_goals first | (simp only; omega) | skip
  unfold DT.time
  simp only
  rw [he]
  omega
noncomputable def dateC (t : Int) : DT := if h : -62135596800 ≤ t then Classical.choose (DT.ex t h) else ⟨0, 0, 0, 0, 0, 0⟩
theorem dateC_ok {t : Int} (h : -62135596800 ≤ t) : (dateC t).Ok ∧ (dateC t).time = t := by
  unfold dateC
  rw [dif_pos h]
  exact Classical.choose_spec (DT.ex t h)
theorem dateC_of {D : DT} (h : D.Ok) : dateC D.time = D := by
  have hb : -62135596800 ≤ D.time := by
    have := h.h0; have := h.mi0; have := h.s0
    have h1 := dayNo_in h.date
    have h2 := bef_far h.date.y1
    have h3 : bef 1 = 0 := by decide
    have h4 := h.date.y1
    unfold DT.time
    omega
  obtain ⟨h1, h2⟩ := dateC_ok hb
  exact DT.inj h1 h h2
/-- A time of the years 1 to 9999. -/
theorem year_le {D : DT} (h : D.Ok) (ht : D.time ≤ 253402300799) : D.y ≤ 9999 := by
  have := h.h0; have := h.mi0; have := h.s0
  have h1 := dayNo_in h.date
  rcases (show D.y ≤ 9999 ∨ 9999 < D.y by omega) with h2 | h2
  · exact h2
  · have h3 := bef_far (show (10000 : Int) ≤ D.y by omega)
    have h4 : bef 10000 = 3652059 := by decide
    unfold DT.time at ht
    omega
theorem time_le {D : DT} (h : D.Ok) (hy : D.y ≤ 9999) : D.time ≤ 253402300799 ∧ -62135596800 ≤ D.time := by
  have := h.h0; have := h.mi0; have := h.s0; have := h.h1; have := h.mi1; have := h.s1
  have h1 := dayNo_in h.date
  have h3 := bef_far (show D.y + 1 ≤ 10000 by omega)
  have h5 := bef_far h.date.y1
  have h4 : bef 10000 = 3652059 := by decide
  have h6 : bef 1 = 0 := by decide
  have h7 := h.date.y1
  unfold DT.time
  omega
end Go.Proofs.YtkahakhhdiffcaaGreatDoor
