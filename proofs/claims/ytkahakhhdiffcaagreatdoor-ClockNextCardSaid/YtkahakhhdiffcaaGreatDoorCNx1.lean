/- Contracts of a rule's numbers: digits and plain. -/
import Derived.Test.YtkahakhhdiffcaaGreatDoorCNxP
import Derived.Test.YtkahakhhdiffcaaGreatDoorCNum1
import Derived.Test.YtkahakhhdiffcaaGreatDoorHeap
import Derived.Test.YtkahakhhdiffcaaGreatDoorShelf
namespace Go.Proofs.YtkahakhhdiffcaaGreatDoor
set_option linter.unusedVariables false
set_option linter.unusedSimpArgs false
open Go.RowKit
theorem isDg_yes {a : UInt8} (h : isDg a = true) : (48 : Int) ≤ (a.toNat : Int) ∧ (a.toNat : Int) ≤ 57 := by
  unfold isDg at h
  simp at h
  omega
theorem isDg_no {a : UInt8} (h : isDg a = false) : (a.toNat : Int) < 48 ∨ (57 : Int) < (a.toNat : Int) := by
  unfold isDg at h
  rw [Bool.and_eq_false_iff] at h
  simp at h
  omega
set_option maxHeartbeats 1600000 in
theorem digits_any (s : Bs) (k : Nat) (hk : k ≤ 1000000000) (hs : s.length ≤ 1000000000) (w : World) :
    Calls Tryz.prog 121 #[.string ⟨s.toArray⟩, .int .i64 k] w fun e w' => e = .returned (.int .i64 (digN s k)) ∧ w = w' := by
  obtain ⟨d1, d2⟩ := digN_le s k
  have HA := Lib.hid (dig_at s k)
  have he : ∀ d, digN s k = d → d < k → ∀ h : d < s.length, isDg s[d] = false := by rintro _ rfl; exact dig_end s k
  obtain ⟨d, hd⟩ : ∃ d, digN s k = d := ⟨_, rfl⟩
  have HE := Lib.hid (he d hd)
  simp only [hd] at HA d1 d2 ⊢
  clear hd he
  obtain ⟨m, hm⟩ : ∃ m, min k s.length = m := ⟨_, rfl⟩
  have hm1 : min (k : Int) (s.length : Int) = (m : Int) := by omega
  have hdm : d ≤ m := by omega
  have HM := Lib.hid hm
  clear hm
  go_enter Tryz.func121, Tryz.ntmps121
  go_wp2_with fail
  go_loop [5] (fun i => ∃ j : Nat, j ≤ d ∧ i = .int .i64 (j : Int)) (fun i => d - (intOf i).toNat)
  case atStart => exact ⟨0, Nat.zero_le _, rfl⟩
  case round =>
    obtain ⟨j, hj, rfl⟩ := hrel
    by_cases hlt : j < d
    · obtain ⟨hjs, hdg⟩ := HA.out j hlt
      obtain ⟨g1, g2⟩ := isDg_yes hdg
      have t1 : decide ((j : Int) < (m : Int)) = true := by rw [decide_eq_true_eq]; omega
      have hw1 : IntKind.i64.wrap ((j : Int) + 1) = (j : Int) + 1 := IntWalk.i64_in _ (by omega)
      clear hdg HA HE
      go_wp2_with fail
      go_round
      case rel => exact ⟨j + 1, by omega, by go_num⟩
      case measure => simp [intOf]; omega
    · obtain rfl : j = d := by omega
      by_cases hjm : j < m
      · have hjs : j < s.length := by have := HM.out; omega
        have t1 : decide ((j : Int) < (m : Int)) = true := by rw [decide_eq_true_eq]; omega
        have hk2 : j < k := by have := HM.out; omega
        have hno := isDg_no (HE.out hk2 hjs)
        have hlt0 : (0 : Int) ≤ (s[j].toNat : Int) := by omega
        clear HA HE
        rcases hno with h1 | h1
        · have g1 : decide (48 ≤ (s[j].toNat : Int)) = false := by rw [decide_eq_false_iff_not]; omega
          go_wp2_with fail
          go_ret
          exact ⟨rfl, rfl⟩
        · have g1 : (48 : Int) ≤ (s[j].toNat : Int) := by omega
          have g2 : decide ((s[j].toNat : Int) ≤ 57) = false := by rw [decide_eq_false_iff_not]; omega
          go_wp2_with fail
          go_ret
          exact ⟨rfl, rfl⟩
      · have t1 : decide ((j : Int) < (m : Int)) = false := by rw [decide_eq_false_iff_not]; omega
        clear HA HE
        go_wp2_with fail
        go_ret
        exact ⟨rfl, rfl⟩
theorem okS_len {s : Bs} (h : okS s = true) : s.length ≤ 2 := by
  rcases (plain_yes h).2 with h | h <;> omega
/-- What 'plain' tells. -/
def plV (s : Bs) : Int := if okS s = true then numS s else 0
theorem atoi_one {s : Bs} (ho : okS s = true) (W : World) : Calls Tryz.prog 91 #[.string ⟨s.toArray⟩] W fun e w' => e = .returned (.tuple #[.int .i64 (numS s : Int), .nilIface]) ∧ Below W.heap.size W w' :=
  (Tryz.strconv_Atoi ⟨s.toArray⟩ (numS s : Int) (by have := okS_len ho; show s.length ≤ _; omega) (atoi_okS ho) W).mono fun e w' ⟨he, t, hw⟩ => ⟨he, by rw [hw]; exact Lib.bytesWorld_below _ _ _⟩
set_option maxHeartbeats 1600000 in
theorem plain_any (s : Bs) (lo hi : Nat) (hs : s.length ≤ 100000) (w : World) :
    Calls Tryz.prog 102 #[.string ⟨s.toArray⟩, .int .i64 lo, .int .i64 hi] w fun e w' => e = .returned (.tuple #[.int .i64 (plV s), .bool (okIn s lo hi)]) ∧ Below w.heap.size w w' := by
  have DG := Lib.hid (fun W => digits_any s 3 (by omega) (by omega) W)
  cases ho : okS s with
  | true =>
    obtain ⟨p1, p2⟩ := plain_yes ho
    have hv : plV s = numS s := by unfold plV; rw [if_pos ho]
    have hq : okIn s lo hi = winI (numS s : Int) lo hi := by
      unfold okIn winI
      rw [ho, Bool.true_and, Bool.eq_iff_iff]
      simp
    have AT := Lib.hid (fun W => atoi_one ho W)
    have WI := Lib.hid (fun W => within_any (numS s : Int) lo hi W)
    rw [hv, hq]
    rw [p1] at DG
    generalize winI (numS s : Int) lo hi = b at *
    generalize numS s = v at *
    clear hv hq ho p1
    rcases p2 with h1 | ⟨h1, h2⟩
    · have hl1 : (s.length : Int) = 1 := by omega
      go_enter Tryz.func102, Tryz.ntmps102
      go_wp2_with (first | (go_at_call 121; refine (DG.out _).mono ?_; rintro e w1 ⟨rfl, rfl⟩; rw [h1]) | (go_at_call 91; refine (AT.out _).mono ?_; rintro e w2 ⟨rfl, hB⟩; have H2 := Lib.hid hB; clear hB) | (go_at_call 42; refine (WI.out _).mono ?_; rintro e w3 ⟨rfl, rfl⟩))
      go_ret2
      exact ⟨rfl, H2.out⟩
    · have hl1 : (s.length : Int) = 2 := by omega
      have h0 : 0 < s.length := by omega
      have hne : ((s[0].toNat : Int) == 48) = false := by have := h2 h0; simp; omega
      go_enter Tryz.func102, Tryz.ntmps102
      go_wp2_with (first | (go_at_call 121; refine (DG.out _).mono ?_; rintro e w1 ⟨rfl, rfl⟩; rw [h1]) | (go_at_call 91; refine (AT.out _).mono ?_; rintro e w2 ⟨rfl, hB⟩; have H2 := Lib.hid hB; clear hB) | (go_at_call 42; refine (WI.out _).mono ?_; rintro e w3 ⟨rfl, rfl⟩))
      go_ret2
      exact ⟨rfl, H2.out⟩
  | false =>
    have hv : plV s = 0 := by unfold plV; rw [ho]; rfl
    have hq : okIn s lo hi = false := by unfold okIn; rw [ho]; rfl
    have p := plain_no ho
    rw [hv, hq]
    clear hv hq ho
    generalize digN s 3 = d at *
    rcases p with rfl | h1 | ⟨h1, h2, h3⟩ | ⟨rfl, h1, h2, h3⟩
    · go_enter Tryz.func102, Tryz.ntmps102
      go_wp2_with (go_at_call 121; refine (DG.out _).mono ?_; rintro e w1 ⟨rfl, rfl⟩)
      go_ret2
      exact ⟨rfl, Below.refl _ _⟩
    · have t0 : ((d : Int) == 0) = false := by simp; omega
      have t1 : decide ((2 : Int) < (d : Int)) = true := by rw [decide_eq_true_eq]; omega
      go_enter Tryz.func102, Tryz.ntmps102
      go_wp2_with (go_at_call 121; refine (DG.out _).mono ?_; rintro e w1 ⟨rfl, rfl⟩)
      go_ret2
      exact ⟨rfl, Below.refl _ _⟩
    · have t0 : ((d : Int) == 0) = false := by simp; omega
      have t1 : decide ((2 : Int) < (d : Int)) = false := by rw [decide_eq_false_iff_not]; omega
      have t2 : decide ((d : Int) < (s.length : Int)) = true := by rw [decide_eq_true_eq]; omega
      go_enter Tryz.func102, Tryz.ntmps102
      go_wp2_with (go_at_call 121; refine (DG.out _).mono ?_; rintro e w1 ⟨rfl, rfl⟩)
      go_ret2
      exact ⟨rfl, Below.refl _ _⟩
    · have hl1 : (s.length : Int) = 2 := by omega
      have hne : ((s[0].toNat : Int) == 48) = true := by simp; omega
      go_enter Tryz.func102, Tryz.ntmps102
      go_wp2_with (go_at_call 121; refine (DG.out _).mono ?_; rintro e w1 ⟨rfl, rfl⟩)
      go_ret2
      exact ⟨rfl, Below.refl _ _⟩
end Go.Proofs.YtkahakhhdiffcaaGreatDoor
