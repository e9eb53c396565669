/- Units of time in plain Lean: what Add and Between compute, and how they hang together. -/
import Derived.Test.YtmidphmniikdpaaDoorCDates
namespace Go.Proofs.YtmidphmniikdpaaDoor
set_option linter.unusedVariables false
set_option linter.unusedSimpArgs false

def secU (u : Nat) : Int := if u = 0 then 1 else if u = 1 then 60 else if u = 2 then 3600 else if u = 3 then 86400 else if u = 4 then 604800 else 0
def monU (u : Nat) : Int := if u = 5 then 1 else if u = 6 then 12 else 0
def DT.ix (D : DT) : Int := 12 * D.y + D.m - 1
def DT.shift (D : DT) (k : Int) : DT := ⟨(D.ix + k) / 12, (D.ix + k) % 12 + 1, min D.d (dim ((D.ix + k) / 12) ((D.ix + k) % 12 + 1)), D.h, D.mi, D.s⟩
noncomputable def addC (t n : Int) (u : Nat) : Int × Int :=
  if 0 < secU u then (if validI (t + n * secU u) = true then (t + n * secU u, 0) else (0, 7))
  else if 12 ≤ (dateC t).ix + n * monU u ∧ (dateC t).ix + n * monU u < 120000 then (((dateC t).shift (n * monU u)).time, 0) else (0, 7)
noncomputable def betC (a b : Int) (u : Nat) : Int :=
  if 0 < secU u then (b - a) / secU u
  else if (addC a (((dateC b).ix - (dateC a).ix) / monU u) u).1 ≤ b then ((dateC b).ix - (dateC a).ix) / monU u else ((dateC b).ix - (dateC a).ix) / monU u - 1

theorem sec_cases {u : Nat} (hu : u ≤ 6) : (secU u = 1 ∨ secU u = 60 ∨ secU u = 3600 ∨ secU u = 86400 ∨ secU u = 604800) ∨ (secU u = 0 ∧ (monU u = 1 ∨ monU u = 12)) := by
  have : u = 0 ∨ u = 1 ∨ u = 2 ∨ u = 3 ∨ u = 4 ∨ u = 5 ∨ u = 6 := by omega
  rcases this with rfl | rfl | rfl | rfl | rfl | rfl | rfl <;> decide
theorem ix_lt {D E : DT} (hD : D.Ok) (hE : E.Ok) (h : D.ix < E.ix) : D.time < E.time := by
  have a := dayNo_in hD.date
  have b := dayNo_in hE.date
  have q1 := hD.date.m1; have q2 := hD.date.m12; have q3 := hE.date.m1; have q4 := hE.date.m12
  have := hD.h0; have := hD.h1; have := hD.mi0; have := hD.mi1; have := hD.s0; have := hD.s1
  have := hE.h0; have := hE.h1; have := hE.mi0; have := hE.mi1; have := hE.s0; have := hE.s1
  have hd : dayNo D.y D.m D.d < dayNo E.y E.m E.d := by
    unfold DT.ix at h
    rcases (show D.y < E.y ∨ D.y = E.y by omega) with h1 | h1
    · have := bef_far (show D.y + 1 ≤ E.y by omega); omega
    · rw [← h1] at b h ⊢
      have := cum_mono D.y (m := D.m + 1) (n := E.m) (by omega) (by omega) (by omega)
      omega
  unfold DT.time
  omega
theorem ix_le {D E : DT} (hD : D.Ok) (hE : E.Ok) (h : D.time ≤ E.time) : D.ix ≤ E.ix := by
  rcases (show D.ix ≤ E.ix ∨ E.ix < D.ix by omega) with h1 | h1
  · exact h1
  · have := ix_lt hE hD h1; omega
theorem ix_in {D : DT} (hD : D.Ok) : 12 ≤ D.ix := by have := hD.date.y1; have := hD.date.m1; unfold DT.ix; omega
theorem ix_in2 {D : DT} (hD : D.Ok) (hy : D.y ≤ 9999) : D.ix < 120000 := by have := hD.date.m12; unfold DT.ix; omega
theorem shift_ok {D : DT} (hD : D.Ok) {k : Int} (h1 : 12 ≤ D.ix + k) : (D.shift k).Ok ∧ (D.shift k).ix = D.ix + k := by
  have := hD.date.d1
  have h2 := dim_ge ((D.ix + k) / 12) ((D.ix + k) % 12 + 1)
  refine ⟨⟨⟨?_, ?_, ?_, ?_, ?_⟩, hD.h0, hD.h1, hD.mi0, hD.mi1, hD.s0, hD.s1⟩, ?_⟩
  · show 1 ≤ (D.ix + k) / 12; omega
  · show 1 ≤ (D.ix + k) % 12 + 1; omega
  · show (D.ix + k) % 12 + 1 ≤ 12; omega
  · show 1 ≤ min D.d _; omega
  · exact Int.min_le_right _ _
  · show 12 * ((D.ix + k) / 12) + ((D.ix + k) % 12 + 1) - 1 = _; omega
theorem shift_y {D : DT} {k : Int} (h : D.ix + k < 120000) : (D.shift k).y ≤ 9999 := by show (D.ix + k) / 12 ≤ 9999; omega
theorem shift_zero {D : DT} (hD : D.Ok) : D.shift 0 = D := by
  have h1 := hD.date.m1; have h2 := hD.date.m12; have h3 := hD.date.dn
  have e1 : (D.ix + 0) / 12 = D.y := by unfold DT.ix; omega
  have e2 : (D.ix + 0) % 12 + 1 = D.m := by unfold DT.ix; omega
  unfold DT.shift
  rw [e1, e2, Int.min_eq_left h3]
theorem shift_shift {D : DT} (hD : D.Ok) (hd : D.d ≤ 28) {a b : Int} (h1 : 12 ≤ D.ix + a) : (D.shift a).shift b = D.shift (a + b) := by
  have e := (shift_ok hD h1).2
  have d1 := dim_ge ((D.ix + a) / 12) ((D.ix + a) % 12 + 1)
  have d2 := dim_ge ((D.ix + (a + b)) / 12) ((D.ix + (a + b)) % 12 + 1)
  have m1 : (D.shift a).d = D.d := by show min D.d _ = _; omega
  have e2 : (D.shift a).ix + b = D.ix + (a + b) := by omega
  show DT.mk _ _ (min (D.shift a).d _) _ _ _ = _
  rw [e2, m1]
  rfl
theorem validI_iff2 (t : Int) : validI t = true ↔ -62135596800 ≤ t ∧ t ≤ 253402300799 := validI_iff t
theorem valid_date {t : Int} (h : validI t = true) : (dateC t).Ok ∧ (dateC t).time = t ∧ (dateC t).y ≤ 9999 := by
  have h1 := (validI_iff t).1 h
  have h2 := dateC_ok h1.1
  exact ⟨h2.1, h2.2, year_le h2.1 (by rw [h2.2]; exact h1.2)⟩
theorem shift_valid {D : DT} (hD : D.Ok) {k : Int} (h1 : 12 ≤ D.ix + k) (h2 : D.ix + k < 120000) : validI (D.shift k).time = true ∧ dateC (D.shift k).time = D.shift k := by
  have h3 := time_le (shift_ok hD h1).1 (shift_y h2)
  exact ⟨(validI_iff _).2 ⟨h3.2, h3.1⟩, dateC_of (shift_ok hD h1).1⟩
theorem add_sec {t n : Int} {u : Nat} (hs : 0 < secU u) : addC t n u = if validI (t + n * secU u) = true then (t + n * secU u, 0) else (0, 7) := by unfold addC; rw [if_pos hs]
theorem add_mon {t n : Int} {u : Nat} (hs : secU u = 0) : addC t n u = if 12 ≤ (dateC t).ix + n * monU u ∧ (dateC t).ix + n * monU u < 120000 then (((dateC t).shift (n * monU u)).time, 0) else (0, 7) := by unfold addC; rw [if_neg (by omega)]
theorem add_ok_valid {t n : Int} {u : Nat} (hu : u ≤ 6) (hv : validI t = true) (h : (addC t n u).2 = 0) : validI (addC t n u).1 = true := by
  rcases sec_cases hu with hs | ⟨hs, hm⟩
  · rw [add_sec (by omega)] at h ⊢
    split at h
    · rename_i h1; rw [if_pos h1]; exact h1
    · cases h
  · rw [add_mon hs] at h ⊢
    split at h
    · rename_i h1; rw [if_pos h1]; exact (shift_valid (valid_date hv).1 h1.1 h1.2).1
    · cases h
/-- Adding goes together. -/
theorem add_add {t m n : Int} {u : Nat} (hu : u ≤ 6) (hv : validI t = true) (hd : (dateC t).d ≤ 28) (h1 : (addC t m u).2 = 0) (h2 : (addC (addC t m u).1 n u).2 = 0) :
    addC t (m + n) u = addC (addC t m u).1 n u := by
  rcases sec_cases hu with hs | ⟨hs, hm⟩
  · have hs0 : 0 < secU u := by omega
    have e : addC t m u = (t + m * secU u, 0) := by
      rw [add_sec hs0] at h1 ⊢
      split at h1
      · rename_i h; rw [if_pos h]
      · cases h1
    rw [e, add_sec hs0, add_sec hs0]
    rw [show t + (m + n) * secU u = t + m * secU u + n * secU u by rw [Int.add_mul]; omega]
  · have hD := valid_date hv
    have hc : 12 ≤ (dateC t).ix + m * monU u ∧ (dateC t).ix + m * monU u < 120000 := by
      rw [add_mon hs] at h1
      split at h1
      · assumption
      · cases h1
    have e : addC t m u = (((dateC t).shift (m * monU u)).time, 0) := by rw [add_mon hs, if_pos hc]
    have e2 := (shift_valid hD.1 hc.1 hc.2).2
    rw [e, add_mon hs, add_mon hs]
    simp only
    rw [e2, (shift_ok hD.1 hc.1).2, shift_shift hD.1 hd hc.1, show (dateC t).ix + (m + n) * monU u = (dateC t).ix + m * monU u + n * monU u by rw [Int.add_mul]; omega, Int.add_mul]

/-- Where the search begins: what is found by it. -/
theorem bet_mon {a b : Int} {u : Nat} (hs : secU u = 0) (hm : monU u = 1 ∨ monU u = 12) (ha : validI a = true) (hb : validI b = true) (hab : a ≤ b) :
    ∃ n0, ((dateC b).ix - (dateC a).ix) / monU u = n0 ∧ 0 ≤ n0 ∧ n0 ≤ 120000 ∧ (addC a n0 u).2 = 0 ∧
      (b < (addC a n0 u).1 → 1 ≤ n0 ∧ (addC a (n0 - 1) u).2 = 0 ∧ (addC a (n0 - 1) u).1 ≤ b) ∧ ((addC a (n0 + 1) u).2 ≠ 0 ∨ b < (addC a (n0 + 1) u).1) := by
  obtain ⟨oa, ta, ya⟩ := valid_date ha
  obtain ⟨ob, tb, yb⟩ := valid_date hb
  have h1 := ix_le oa ob (by omega)
  have h2 := ix_in2 ob yb
  have h3 := ix_in oa
  have hz := shift_zero oa
  have L : ∀ n : Int, 12 ≤ (dateC a).ix + n * monU u → (dateC a).ix + n * monU u < 120000 → addC a n u = (((dateC a).shift (n * monU u)).time, 0) := fun n g1 g2 => by rw [add_mon hs, if_pos ⟨g1, g2⟩]
  have LT : ∀ n : Int, 12 ≤ (dateC a).ix + n * monU u → (dateC a).ix + n * monU u < (dateC b).ix → ((dateC a).shift (n * monU u)).time < b := fun n g1 g2 => by
    have := ix_lt (shift_ok oa g1).1 ob (by rw [(shift_ok oa g1).2]; exact g2)
    omega
  have GT : ∀ n : Int, (dateC b).ix < (dateC a).ix + n * monU u → (dateC a).ix + n * monU u < 120000 → b < ((dateC a).shift (n * monU u)).time := fun n g1 g2 => by
    have := ix_lt ob (shift_ok (k := n * monU u) oa (by omega)).1 (by rw [(shift_ok (k := n * monU u) oa (by omega)).2]; exact g1)
    omega
  have N := add_mon (t := a) (n := ((dateC b).ix - (dateC a).ix) / monU u + 1) hs
  refine ⟨_, rfl, ?_⟩
  have key : 0 ≤ ((dateC b).ix - (dateC a).ix) / monU u ∧ ((dateC b).ix - (dateC a).ix) / monU u ≤ 120000 ∧ (dateC a).ix + ((dateC b).ix - (dateC a).ix) / monU u * monU u ≤ (dateC b).ix ∧ (dateC a).ix ≤ (dateC a).ix + ((dateC b).ix - (dateC a).ix) / monU u * monU u
      ∧ (dateC b).ix < (dateC a).ix + (((dateC b).ix - (dateC a).ix) / monU u + 1) * monU u ∧ (1 ≤ ((dateC b).ix - (dateC a).ix) / monU u → (dateC a).ix ≤ (dateC a).ix + (((dateC b).ix - (dateC a).ix) / monU u - 1) * monU u) ∧ (dateC a).ix + (((dateC b).ix - (dateC a).ix) / monU u - 1) * monU u < (dateC b).ix := by
    rcases hm with h | h <;> rw [h] <;> omega
  generalize ((dateC b).ix - (dateC a).ix) / monU u = n0 at *
  obtain ⟨k1, k1', k2, k3, k4, k5, k6⟩ := key
  refine ⟨k1, k1', by rw [L n0 (by omega) (by omega)], ?_, ?_⟩
  · intro hgt
    have h0 : 1 ≤ n0 := by
      rcases (show n0 = 0 ∨ 1 ≤ n0 by omega) with h | h
      · subst h
        rw [L 0 (by omega) (by omega), Int.zero_mul, hz] at hgt
        simp only at hgt
        omega
      · exact h
    have h5 := k5 h0
    rw [L (n0 - 1) (by omega) (by omega)]
    exact ⟨h0, rfl, Int.le_of_lt (LT _ (by omega) k6)⟩
  · by_cases hc : (dateC a).ix + (n0 + 1) * monU u < 120000
    · right
      rw [L (n0 + 1) (by omega) hc]
      exact GT _ k4 hc
    · left
      rw [N, if_neg (by omega)]
      decide
/-- P11.3: Between is the greatest number of units that is not too much. -/
theorem bet_law {a b : Int} {u : Nat} (hu : u ≤ 6) (ha : validI a = true) (hb : validI b = true) (hab : a ≤ b) :
    0 ≤ betC a b u ∧ betC a b u ≤ 400000000000 ∧ (addC a (betC a b u) u).2 = 0 ∧ (addC a (betC a b u) u).1 ≤ b ∧ ((addC a (betC a b u + 1) u).2 ≠ 0 ∨ b < (addC a (betC a b u + 1) u).1) := by
  have va := (validI_iff a).1 ha
  have vb := (validI_iff b).1 hb
  rcases sec_cases hu with hs | ⟨hs, hm⟩
  · have hs0 : 0 < secU u := by omega
    have e : betC a b u = (b - a) / secU u := by unfold betC; rw [if_pos hs0]
    rw [e, add_sec hs0, add_sec hs0]
    have h1 : a + (b - a) / secU u * secU u ≤ b ∧ a ≤ a + (b - a) / secU u * secU u ∧ b < a + ((b - a) / secU u + 1) * secU u ∧ 0 ≤ (b - a) / secU u ∧ (b - a) / secU u ≤ 400000000000 := by
      rcases hs with h | h | h | h | h <;> rw [h] <;> omega
    rw [if_pos ((validI_iff _).2 ⟨by omega, by omega⟩)]
    refine ⟨h1.2.2.2.1, h1.2.2.2.2, rfl, h1.1, ?_⟩
    split
    · exact .inr h1.2.2.1
    · left; decide
  · obtain ⟨n0, h0, h1, h1', h2, h3, h4⟩ := bet_mon hs hm ha hb hab
    have e : betC a b u = if (addC a n0 u).1 ≤ b then n0 else n0 - 1 := by unfold betC; rw [if_neg (by omega), h0]
    rw [e]
    split
    · rename_i h; exact ⟨h1, by omega, h2, h, h4⟩
    · rename_i h
      obtain ⟨g1, g2, g3⟩ := h3 (by omega)
      rw [show n0 - 1 + 1 = n0 by omega]
      exact ⟨by omega, by omega, g2, g3, .inr (by omega)⟩
end Go.Proofs.YtmidphmniikdpaaDoor
