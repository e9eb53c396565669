/- The beginnings of units in plain Lean. -/
import Derived.Test.YtmidphmniikdpaaDoorCAdd4
namespace Go.Proofs.YtmidphmniikdpaaDoor
set_option linter.unusedVariables false
set_option linter.unusedSimpArgs false
open Go.RowKit

noncomputable def startC (t : Int) (u : Nat) : Int :=
  if 0 < secU u then t - (t + 62135596800) % secU u
  else (dayNo (dateC t).y (if u = 5 then (dateC t).m else 1) 1 - 719162) * 86400
noncomputable def startR (t : Int) (s : Bs) : Int × Int := if validI t = true then (match unitC s with
  | some u => (startC t u, 0)
  | none => (0, 5)) else (0, 7)
/-- What is cleared at the beginning of a unit (not a week). -/
def DT.beg (D : DT) (u : Nat) : DT := ⟨D.y, if 6 ≤ u then 1 else D.m, if 5 ≤ u then 1 else D.d, if 3 ≤ u then 0 else D.h, if 2 ≤ u then 0 else D.mi, if 1 ≤ u then 0 else D.s⟩
theorem beg_ok {D : DT} (h : D.Ok) (u : Nat) : (D.beg u).Ok := by
  have h1 := h.date.y1; have h2 := h.date.m1; have h3 := h.date.m12; have h4 := h.date.d1; have h5 := h.date.dn
  have h6 := h.h0; have h7 := h.h1; have h8 := h.mi0; have h9 := h.mi1; have h10 := h.s0; have h11 := h.s1
  have g := dim_ge D.y (if 6 ≤ u then 1 else D.m)
  unfold DT.beg
  refine ⟨⟨?_, ?_, ?_, ?_, ?_⟩, ?_, ?_, ?_, ?_, ?_, ?_⟩ <;> simp only
  · omega
  · split <;> omega
  · split <;> omega
  · split <;> omega
  · by_cases h5u : 5 ≤ u
    · rw [if_pos h5u]; omega
    · rw [if_neg h5u, if_neg (by omega)]; exact h5
  all_goals split <;> omega
theorem beg_year {D : DT} (u : Nat) : (D.beg u).y = D.y := rfl
theorem beg_time {t : Int} (hv : validI t = true) {u : Nat} (hu : u = 0 ∨ u = 1 ∨ u = 2 ∨ u = 3 ∨ u = 5 ∨ u = 6) : ((dateC t).beg u).time = startC t u := by
  obtain ⟨ok, ht, -⟩ := valid_date hv
  have h6 := ok.h0; have h7 := ok.h1; have h8 := ok.mi0; have h9 := ok.mi1; have h10 := ok.s0; have h11 := ok.s1
  unfold startC
  unfold DT.time at ht
  rcases hu with rfl | rfl | rfl | rfl | rfl | rfl <;> simp only [DT.time, DT.beg, secU] <;> simp <;> omega
theorem week_time {t : Int} (hv : validI t = true) : validI ((dateC t).beg 3).time = true ∧ ((dateC t).beg 3).time - (wdC ((dateC t).beg 3).time - 1) * 86400 = startC t 4 := by
  obtain ⟨ok, ht, -⟩ := valid_date hv
  have hv2 := (validI_iff t).1 hv
  have h3 := beg_time hv (u := 3) (by omega)
  rw [h3, validI_iff]
  unfold startC wdC dayOf
  simp only [secU]
  simp
  omega
theorem start_le {t : Int} (hv : validI t = true) {u : Nat} (hu : u ≤ 6) : startC t u ≤ t ∧ -62135596800 ≤ startC t u := by
  obtain ⟨ok, ht, -⟩ := valid_date hv
  have hv2 := (validI_iff t).1 hv
  rcases (show (u = 0 ∨ u = 1 ∨ u = 2 ∨ u = 3 ∨ u = 5 ∨ u = 6) ∨ u = 4 by omega) with h | rfl
  · have e := beg_time hv h
    have hb := time_le (beg_ok ok u) (by rw [beg_year]; exact (valid_date hv).2.2)
    refine ⟨?_, by omega⟩
    have h6 := ok.h0; have h7 := ok.h1; have h8 := ok.mi0; have h9 := ok.mi1; have h10 := ok.s0; have h11 := ok.s1
    rcases (show u ≤ 3 ∨ u = 5 ∨ u = 6 by omega) with h1 | rfl | rfl
    · have e2 : startC t u = t - (t + 62135596800) % secU u := by unfold startC; rw [if_pos]; rcases (show u = 0 ∨ u = 1 ∨ u = 2 ∨ u = 3 by omega) with rfl | rfl | rfl | rfl <;> decide
      rw [e2]
      rcases (show u = 0 ∨ u = 1 ∨ u = 2 ∨ u = 3 by omega) with rfl | rfl | rfl | rfl <;> simp only [secU] <;> simp <;> omega
    · rw [← e]
      simp only [DT.time, dayNo] at ht
      have := ok.date.d1
      simp only [DT.time, DT.beg, dayNo]
      simp
      omega
    · rw [← e]
      simp only [DT.time, dayNo] at ht
      have := ok.date.d1; have := ok.date.m1; have := ok.date.m12
      have c := cum_mono (dateC t).y (m := 1) (n := (dateC t).m) (by omega) (by omega) (by omega)
      simp only [DT.time, DT.beg, dayNo]
      simp
      omega
  · unfold startC
    simp only [secU]
    simp
    omega
theorem start_valid {t : Int} (hv : validI t = true) {u : Nat} (hu : u ≤ 6) : validI (startC t u) = true := by
  have := start_le hv hu
  have h := (validI_iff t).1 hv
  exact (validI_iff _).2 ⟨this.2, by omega⟩
theorem beg_beg (D : DT) (u : Nat) : (D.beg u).beg u = D.beg u := by
  unfold DT.beg
  simp only [DT.mk.injEq, true_and]
  refine ⟨?_, ?_, ?_, ?_, ?_⟩ <;> split <;> rfl
theorem start_start {t : Int} (hv : validI t = true) {u : Nat} (hu : u ≤ 6) : startC (startC t u) u = startC t u := by
  rcases (show (u = 0 ∨ u = 1 ∨ u = 2 ∨ u = 3 ∨ u = 5 ∨ u = 6) ∨ u = 4 by omega) with h | rfl
  · have hv3 := start_valid hv hu
    have e := beg_time hv h
    have e2 := beg_time hv3 h
    rw [← e2, ← e, dateC_of (beg_ok (valid_date hv).1 u), beg_beg]
  · unfold startC
    simp only [secU]
    simp
    omega
theorem start_bet {t : Int} (hv : validI t = true) {u : Nat} (hu : u ≤ 6) : betC (startC t u) t u = 0 := by
  obtain ⟨ok, ht, -⟩ := valid_date hv
  rcases sec_cases hu with hs | ⟨hs, hm⟩
  · unfold betC startC
    rw [if_pos (by omega), if_pos (by omega)]
    rcases hs with h | h | h | h | h <;> rw [h] <;> omega
  · have h56 : u = 5 ∨ u = 6 := by
      rcases (show u = 0 ∨ u = 1 ∨ u = 2 ∨ u = 3 ∨ u = 4 ∨ u = 5 ∨ u = 6 by omega) with rfl | rfl | rfl | rfl | rfl | rfl | rfl <;> simp [secU] at hs <;> omega
    have e := beg_time hv (u := u) (by omega)
    have hx : dateC (startC t u) = (dateC t).beg u := by rw [← e, dateC_of (beg_ok ok u)]
    have hn : ((dateC t).ix - (dateC (startC t u)).ix) / monU u = 0 := by
      rw [hx]
      have := ok.date.m1; have := ok.date.m12
      rcases h56 with rfl | rfl <;> simp only [DT.ix, DT.beg, monU] <;> simp <;> omega
    have hok := (valid_date (start_valid hv hu)).1
    have ha : (addC (startC t u) 0 u).1 = startC t u := by
      rw [add_mon hs]
      have h1 := ix_in hok
      have h2 := ix_in2 hok (valid_date (start_valid hv hu)).2.2
      rw [if_pos (by omega), Int.zero_mul, shift_zero hok]
      exact (valid_date (start_valid hv hu)).2.1
    unfold betC
    rw [if_neg (by omega), hn, ha, if_pos (start_le hv hu).1]
end Go.Proofs.YtmidphmniikdpaaDoor
