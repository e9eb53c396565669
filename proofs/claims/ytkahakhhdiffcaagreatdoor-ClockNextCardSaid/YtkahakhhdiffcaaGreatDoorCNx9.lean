/- The reference's numbers of a rule: 'small'. -/
import Derived.Test.YtkahakhhdiffcaaGreatDoorCNx8
import Derived.Test.YtkahakhhdiffcaaGreatDoorCAwake
import Derived.Test.YtkahakhhdiffcaaGreatDoorCREaster
import Derived.Lib.AtoiAll
namespace Go.Proofs.YtkahakhhdiffcaaGreatDoor
set_option linter.unusedVariables false
set_option linter.unusedSimpArgs false
open Go.RowKit Go.Shelf
/-- No numeral: what a parse of no digit ends in. -/
def badN : Lib.NumEnd Nat := Lib.parseMag []
def badI : Lib.NumEnd Int := Lib.atoiAll []
theorem parse_dec : ∀ (l : Bs) (k acc : Nat), acc < 10 ^ k → k + l.length ≤ 18 →
    (Lib.parseUint10 acc l = match Lib.decFrom acc l with | some u => .ok u | none => badN) ∧ ∀ u, Lib.decFrom acc l = some u → u < 1000000000000000000
  | [], k, acc, h1, h2 => by
    refine ⟨rfl, fun u hu => ?_⟩
    simp [Lib.decFrom] at hu
    subst hu
    have : 10 ^ k ≤ 10 ^ 18 := Nat.pow_le_pow_right (by omega) (by simpa using h2)
    omega
  | c :: r, k, acc, h1, h2 => by
    have hk : 10 ^ (k + 1) ≤ 10 ^ 18 := Nat.pow_le_pow_right (by omega) (by simp at h2; omega)
    have hp : 10 ^ (k + 1) = 10 ^ k * 10 := Nat.pow_succ 10 k
    unfold Lib.parseUint10 Lib.decFrom Lib.digitVal
    by_cases hd : 48 ≤ c.toNat ∧ c.toNat ≤ 57
    · rw [if_pos hd, if_neg (by omega), if_neg (by omega), if_pos hd]
      exact parse_dec r (k + 1) (acc * 10 + (c.toNat - 48)) (by omega) (by simp at h2; omega)
    · rw [if_neg hd, if_neg hd]
      exact ⟨rfl, fun u hu => by cases hu⟩
theorem mag_dec {l : Bs} (h : l.length ≤ 18) : (Lib.parseMag l = match Lib.decNat l with | some u => .ok u | none => badN) ∧ ∀ u, Lib.decNat l = some u → u < 1000000000000000000 := by
  unfold Lib.parseMag Lib.decNat
  cases l with
  | nil => exact ⟨rfl, fun u hu => by cases hu⟩
  | cons c r =>
    rw [if_neg (by simp)]
    exact parse_dec (c :: r) 0 0 (by omega) (by simpa using h)
/-- A short text is a number, or none: none is too great. -/
theorem atoi_short {l : Bs} (h : l.length ≤ 18) : Lib.atoiAll l = match Lib.atoi l with | some n => .ok n | none => badI := by
  unfold Lib.atoiAll Lib.atoi
  cases l with
  | nil => rfl
  | cons c r =>
    have e45 : (c == 45) = decide (c.toNat = 45) := by
      rw [Bool.eq_iff_iff]; simp [← UInt8.toNat_inj]
    have e43 : (c == 43) = decide (c.toNat = 43) := by
      rw [Bool.eq_iff_iff]; simp [← UInt8.toNat_inj]
    simp only [e45, e43, decide_eq_true_eq]
    have hr := mag_dec (l := r) (by simp at h; omega)
    have hc := mag_dec (l := c :: r) h
    by_cases h45 : c.toNat = 45
    · rw [if_pos (.inr h45), hr.1, if_pos h45]
      cases hd : Lib.decNat r with
      | none => rfl
      | some u => have := hr.2 u hd; simp [h45]; omega
    · rw [if_neg h45]
      by_cases h43 : c.toNat = 43
      · rw [if_pos (.inl h43), hr.1, if_pos h43]
        cases hd : Lib.decNat r with
        | none => rfl
        | some u => have := hr.2 u hd; simp [h45]; omega
      · rw [if_neg (by omega), hc.1, if_neg h43]
        cases hd : Lib.decNat (c :: r) with
        | none => rfl
        | some u => have := hc.2 u hd; simp [h45]; omega
/-- The number that Atoi tells. -/
def atoiV (s : Bs) : Int := match Lib.atoiAll s with
  | .ok v => v
  | .range => Lib.atoiSat s
  | _ => 0
theorem atoiV_in (s : Bs) : -9223372036854775808 ≤ atoiV s ∧ atoiV s ≤ 9223372036854775807 := by
  unfold atoiV
  split
  · rename_i v h
    unfold Lib.atoiAll at h
    split at h
    · cases h
    · dsimp only at h
      split at h
      · cases h
      · cases h
      · split at h
        · cases h
        · split at h
          · cases h
          · rename_i h1 h2
            injection h with h
            subst h
            split <;> omega
  · unfold Lib.atoiSat; split <;> omega
  · omega
theorem atoiV_short {s : Bs} (h : s.length ≤ 18) : Lib.atoi s = some (atoiV s) ∨ (Lib.atoi s = none ∧ atoiV s = 0) := by
  unfold atoiV
  rw [atoi_short h]
  cases Lib.atoi s with
  | none => exact .inr ⟨rfl, rfl⟩
  | some n => exact .inl rfl
/-- The two errors of Atoi lie in their variables. -/
def ErrIs (w : World) : Prop := (∃ te pe, w.cell? ⟨5, 0, none⟩ = some (.iface te pe)) ∧ ∃ te pe, w.cell? ⟨6, 0, none⟩ = some (.iface te pe)
theorem ErrIs.below {w w' : World} (h : ErrIs w) (hb : Below w.heap.size w w') : ErrIs w' := by
  obtain ⟨⟨a, b, h1⟩, c, d, h2⟩ := h
  exact ⟨⟨a, b, (hb.cell (by have := Lib.lt_of_cell h1; exact this)).trans h1⟩, c, d, (hb.cell (by have := Lib.lt_of_cell h2; exact this)).trans h2⟩
theorem atoi_full (s : Bs) (hs : s.length ≤ 1000000000) (w : World) (hE : ErrIs w) :
    Calls Tryz.prog 91 #[.string ⟨s.toArray⟩] w fun e w' => ∃ er, e = .returned (.tuple #[.int .i64 (atoiV s), er]) ∧ ((er = .nilIface ∧ ∃ v, Lib.atoiAll s = .ok v) ∨ (∃ N, er = .iface 159 (.pointer (some ⟨N, 0, none⟩))) ∧ ∀ v, Lib.atoiAll s ≠ .ok v) ∧ Below w.heap.size w w' := by
  obtain ⟨⟨a, b, h1⟩, c, d, h2⟩ := hE
  unfold atoiV
  cases h : Lib.atoiAll s with
  | ok v =>
    refine (Tryz.strconv_Atoi_ok ⟨s.toArray⟩ (by show s.length ≤ _; omega) v h w).mono ?_
    rintro e w' ⟨rfl, hw⟩
    exact ⟨_, rfl, .inl ⟨rfl, v, rfl⟩, by rcases hw with rfl | ⟨t, rfl⟩; exact Below.refl _ _; exact Lib.bytesWorld_below _ _ _⟩
  | range =>
    refine (Tryz.strconv_Atoi_range ⟨s.toArray⟩ (by show s.length ≤ _; omega) h _ w h2 (.inr ⟨_, _, rfl⟩)).mono ?_
    rintro e w' ⟨N, rfl, _, _, hb⟩
    exact ⟨_, rfl, .inr ⟨⟨N, rfl⟩, fun v hv => by cases hv⟩, hb⟩
  | _ =>
    refine (Tryz.strconv_Atoi_syntax ⟨s.toArray⟩ (by show s.length ≤ _; omega) (fun v hv => by rw [show (⟨s.toArray⟩ : ByteArray).data.toList = s from rfl, h] at hv; cases hv) (fun hv => by rw [show (⟨s.toArray⟩ : ByteArray).data.toList = s from rfl, h] at hv; cases hv) _ w h1 (.inr ⟨_, _, rfl⟩)).mono ?_
    rintro e w' ⟨N, rfl, _, _, hb⟩
    exact ⟨_, rfl, .inr ⟨⟨N, rfl⟩, fun v hv => by cases hv⟩, hb⟩
theorem PowIs.low {w w' : World} (h : PowIs w) (hb : Below w.heap.size w w') : PowIs w' := h.below hb
/-- A text that is a number, or 0. -/
theorem small_law {s : Bs} (hs : s.length ≤ 2) (lo hi : Nat) : (decide (Lib.itoa (atoiV s) = s) && winI (atoiV s) lo hi) = okIn s lo hi ∧ (okS s = true → atoiV s = numS s) := by
  obtain ⟨h1, h2⟩ := small_iff hs lo hi (atoiV_short (by omega))
  refine ⟨?_, h2⟩
  rw [← h1]
  congr 1
  unfold winI
  rw [Bool.eq_iff_iff]
  simp
set_option maxHeartbeats 1600000 in
theorem small_any (s : Bs) (lo hi : Nat) (hs : s.length ≤ 100000) (w : World) (hE : ErrIs w) (hP : PowIs w) :
    Calls Tryz.prog 52 #[.string ⟨s.toArray⟩, .int .i64 lo, .int .i64 hi] w fun e w' => e = .returned (.tuple #[.int .i64 (atoiV s), .bool (okIn s lo hi)]) ∧ Below w.heap.size w w' := by
  have AT := Lib.hid (atoi_full s (by omega) w hE)
  have HP := Lib.hid hP
  obtain ⟨hv1, hv2⟩ := atoiV_in s
  have HV := Lib.hid (And.intro hv1 hv2)
  have RI := Lib.hid (fun W => rin_any (atoiV s) lo hi W)
  by_cases hl : s.length ≤ 2
  · have hl1 : decide ((s.length : Int) ≤ 2) = true := by rw [decide_eq_true_eq]; omega
    obtain ⟨hlaw, -⟩ := small_law hl lo hi
    rw [← hlaw]
    generalize winI (atoiV s) lo hi = bw at *
    generalize atoiV s = n at *
    have IT := Lib.hid (fun W (h : PowIs W) => itoa_any n HV.out.1 HV.out.2 W h)
    obtain ⟨bq, hbq⟩ : ∃ bq, decide (Lib.itoa n = s) = bq := ⟨_, rfl⟩
    have hbq2 : (Lib.itoa n == s) = bq := by rw [← hbq, Bool.eq_iff_iff]; simp
    rw [hbq]
    generalize Lib.itoa n = q at *
    clear hlaw hl hv1 hv2 hbq hP hE
    cases bq with
    | false =>
      go_enter Tryz.func52, Tryz.ntmps52
      go_wp2_with (first | (go_at_call 91; refine AT.out.mono ?_; rintro e w1 ⟨er, rfl, -, hB⟩; have H1 := Lib.hid hB; clear hB) | (go_at_call 80; refine (IT.out _ (HP.out.below H1.out)).mono ?_; rintro e w2 ⟨rfl, hB⟩; have H2 := Lib.hid hB; clear hB))
      go_ret2
      exact ⟨rfl, H1.out.trans (H2.out.mono H1.out.size)⟩
    | true =>
      go_enter Tryz.func52, Tryz.ntmps52
      go_wp2_with (first | (go_at_call 91; refine AT.out.mono ?_; rintro e w1 ⟨er, rfl, -, hB⟩; have H1 := Lib.hid hB; clear hB) | (go_at_call 80; refine (IT.out _ (HP.out.below H1.out)).mono ?_; rintro e w2 ⟨rfl, hB⟩; have H2 := Lib.hid hB; clear hB) | (go_at_call 50; refine (RI.out _).mono ?_; rintro e w3 ⟨rfl, rfl⟩))
      go_ret2
      exact ⟨rfl, H1.out.trans (H2.out.mono H1.out.size)⟩
  · have hl1 : decide ((s.length : Int) ≤ 2) = false := by rw [decide_eq_false_iff_not]; omega
    have hq : okIn s lo hi = false := by
      unfold okIn
      cases ho : okS s with
      | false => rfl
      | true => exact absurd (okS_len ho) hl
    rw [hq]
    generalize atoiV s = n at *
    clear hq hl hv1 hv2 hP hE
    go_enter Tryz.func52, Tryz.ntmps52
    go_wp2_with (first | (go_at_call 91; refine AT.out.mono ?_; rintro e w1 ⟨er, rfl, -, hB⟩; have H1 := Lib.hid hB; clear hB))
    go_ret2
    exact ⟨rfl, H1.out⟩
end Go.Proofs.YtkahakhhdiffcaaGreatDoor
