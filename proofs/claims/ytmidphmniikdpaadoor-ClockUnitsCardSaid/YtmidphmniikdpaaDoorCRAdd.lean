/- Contracts of the reference's units: unit, Add. -/
import Derived.Test.YtmidphmniikdpaaDoorCAdd4
import Derived.Deep.RegionWith
namespace Go.Proofs.YtmidphmniikdpaaDoor
set_option linter.unusedVariables false
set_option linter.unusedSimpArgs false
open Go.RowKit

theorem unitC_cases (s : Bs) : (unitC s = some 0 ∧ s = [115, 101, 99, 111, 110, 100]) ∨ (unitC s = some 1 ∧ s = [109, 105, 110, 117, 116, 101]) ∨ (unitC s = some 2 ∧ s = [104, 111, 117, 114]) ∨ (unitC s = some 3 ∧ s = [100, 97, 121]) ∨ (unitC s = some 4 ∧ s = [119, 101, 101, 107]) ∨ (unitC s = some 5 ∧ s = [109, 111, 110, 116, 104]) ∨ (unitC s = some 6 ∧ s = [121, 101, 97, 114]) ∨ (unitC s = none ∧ (s == [115, 101, 99, 111, 110, 100]) = false ∧ (s == [109, 105, 110, 117, 116, 101]) = false ∧ (s == [104, 111, 117, 114]) = false ∧ (s == [100, 97, 121]) = false ∧ (s == [119, 101, 101, 107]) = false ∧ (s == [109, 111, 110, 116, 104]) = false ∧ (s == [121, 101, 97, 114]) = false) := by
  by_cases h0 : s = [115, 101, 99, 111, 110, 100]
  · subst h0; left; exact ⟨by decide, rfl⟩
  by_cases h1 : s = [109, 105, 110, 117, 116, 101]
  · subst h1; right; left; exact ⟨by decide, rfl⟩
  by_cases h2 : s = [104, 111, 117, 114]
  · subst h2; right; right; left; exact ⟨by decide, rfl⟩
  by_cases h3 : s = [100, 97, 121]
  · subst h3; right; right; right; left; exact ⟨by decide, rfl⟩
  by_cases h4 : s = [119, 101, 101, 107]
  · subst h4; right; right; right; right; left; exact ⟨by decide, rfl⟩
  by_cases h5 : s = [109, 111, 110, 116, 104]
  · subst h5; right; right; right; right; right; left; exact ⟨by decide, rfl⟩
  by_cases h6 : s = [121, 101, 97, 114]
  · subst h6; right; right; right; right; right; right; left; exact ⟨by decide, rfl⟩
  right; right; right; right; right; right; right; exact ⟨by simp [unitC, unitL, unitFrom, Ne.symm h0, Ne.symm h1, Ne.symm h2, Ne.symm h3, Ne.symm h4, Ne.symm h5, Ne.symm h6], beq_eq_false_iff_ne.2 h0, beq_eq_false_iff_ne.2 h1, beq_eq_false_iff_ne.2 h2, beq_eq_false_iff_ne.2 h3, beq_eq_false_iff_ne.2 h4, beq_eq_false_iff_ne.2 h5, beq_eq_false_iff_ne.2 h6⟩
theorem unitC_name {s : Bs} {u : Nat} (h : unitC s = some u) : (u = 5 → s = [109, 111, 110, 116, 104]) ∧ (u = 6 → s = [121, 101, 97, 114]) := by
  rcases unitC_cases s with ⟨h1, h2⟩ | ⟨h1, h2⟩ | ⟨h1, h2⟩ | ⟨h1, h2⟩ | ⟨h1, h2⟩ | ⟨h1, h2⟩ | ⟨h1, h2⟩ | ⟨h1, h2⟩ <;> rw [h] at h1
  all_goals first | (cases h1; done) | (cases h1; exact ⟨fun h => by first | exact h2 | omega, fun h => by first | exact h2 | omega⟩)
def ruC (s : Bs) : Int × Bool := match unitC s with
  | some u => (secU u, true)
  | none => (0, false)
set_option maxRecDepth 100000 in
set_option maxHeartbeats 1600000 in
theorem runit_any (s : Bs) (w : World) : Calls Tryd.prog 68 #[.string ⟨s.toArray⟩] w fun e w' => e = .returned (.tuple #[.int .i64 (ruC s).1, .bool (ruC s).2]) ∧ w = w' := by
  rcases unitC_cases s with ⟨h1, rfl⟩ | ⟨h1, rfl⟩ | ⟨h1, rfl⟩ | ⟨h1, rfl⟩ | ⟨h1, rfl⟩ | ⟨h1, rfl⟩ | ⟨h1, rfl⟩ | ⟨h1, k0, k1, k2, k3, k4, k5, k6⟩
  all_goals
    unfold ruC
    rw [h1]
    clear h1
    go_enter Tryd.func68, Tryd.ntmps68
    go_wp2_with fail
    go_ret2
    exact ⟨by first | done | rfl, rfl⟩
set_option maxRecDepth 100000 in
set_option maxHeartbeats 1600000 in
theorem rAdd_err (t n : Int) (s : Bs) (e : Int) (h : (validI t = false ∧ e = 7) ∨ (validI t = true ∧ unitC s = none ∧ e = 5)) (w : World) :
    Calls Tryd.prog 34 #[.int .i64 t, .int .i64 n, .string ⟨s.toArray⟩] w fun e' w' => e' = .returned (.tuple #[.int .i64 0, .int .i64 e]) ∧ Below w.heap.size w w' := by
  have HV := Lib.hid (fun W => rright_any t W)
  have HU := Lib.hid (fun W => runit_any s W)
  rcases h with ⟨hv, rfl⟩ | ⟨hv, hu, rfl⟩
  · rw [hv] at HV
    go_enter Tryd.func34, Tryd.ntmps34
    go_wp2_with (first | (go_at_call 44; refine (HV.out _).mono ?_; rintro e w1 ⟨rfl, rfl⟩) | (go_at_call 68; refine (HU.out _).mono ?_; rintro e w1 ⟨rfl, rfl⟩))
    go_ret2
    exact ⟨by first | done | rfl, Below.refl _ _⟩
  · rw [hv] at HV
    have hr : ruC s = (0, false) := by unfold ruC; rw [hu]
    rw [hr] at HU
    clear hu hr
    go_enter Tryd.func34, Tryd.ntmps34
    go_wp2_with (first | (go_at_call 44; refine (HV.out _).mono ?_; rintro e w1 ⟨rfl, rfl⟩) | (go_at_call 68; refine (HU.out _).mono ?_; rintro e w1 ⟨rfl, rfl⟩))
    go_ret2
    exact ⟨by first | done | rfl, Below.refl _ _⟩
/-- Seconds to weeks. -/
theorem radd_far {t n s : Int} (hs : s = 1 ∨ s = 60 ∨ s = 3600 ∨ s = 86400 ∨ s = 604800) (hv : validI t = true) (h : n < -400000000000 ∨ 400000000000 < n) : validI (t + n * s) = false := by
  have h1 := (validI_iff t).1 hv
  rw [← Bool.not_eq_true, validI_iff]
  rcases hs with rfl | rfl | rfl | rfl | rfl <;> omega
set_option maxRecDepth 100000 in
set_option maxHeartbeats 1600000 in
theorem rAdd_secs (t n : Int) (s : Bs) (u : Nat) (hu : unitC s = some u) (hs : secU u = 1 ∨ secU u = 60 ∨ secU u = 3600 ∨ secU u = 86400 ∨ secU u = 604800) (hv : validI t = true) (w : World) :
    Calls Tryd.prog 34 #[.int .i64 t, .int .i64 n, .string ⟨s.toArray⟩] w fun e w' => e = .returned (.tuple #[.int .i64 (addC t n u).1, .int .i64 (addC t n u).2]) ∧ Below w.heap.size w w' := by
  have h1 := (validI_iff t).1 hv
  have HV := Lib.hid (fun W => rright_any t W)
  have HU := Lib.hid (fun W => runit_any s W)
  have hr : ruC s = (secU u, true) := by unfold ruC; rw [hu]
  rw [hr] at HU
  have HFAR := Lib.hid (radd_far (t := t) (n := n) hs hv)
  have HA := Lib.hid (add_sec (t := t) (n := n) (u := u) (by omega))
  have q : 1 ≤ secU u ∧ secU u ≤ 604800 := by omega
  have HMUL : Hid (-400000000000 ≤ n → n ≤ 400000000000 → -400000000000000000 ≤ n * secU u ∧ n * secU u ≤ 400000000000000000) := by
    intro g1 g2
    rcases hs with h | h | h | h | h <;> rw [h] <;> omega
  generalize addC t n u = R at *
  clear hs hu hr
  generalize secU u = k at *
  have HW1 := Lib.hid (fun W => rin_any n (-400000000000) 400000000000 W)
  have hw1 : winI n (-400000000000) 400000000000 = decide (-400000000000 ≤ n ∧ n ≤ 400000000000) := by simp [winI]
  rw [hv] at HV
  by_cases c1 : -400000000000 ≤ n ∧ n ≤ 400000000000
  · rw [hw1, decide_eq_true c1] at HW1
    have hx := HMUL.out c1.1 c1.2
    obtain ⟨x, hxe⟩ : ∃ x, n * k = x := ⟨_, rfl⟩
    rw [hxe] at hx HA
    obtain ⟨tx, htx⟩ : ∃ tx, t + x = tx := ⟨_, rfl⟩
    rw [htx] at HA
    have HVx := Lib.hid (fun W => rright_any tx W)
    clear hw1 HMUL HFAR c1
    cases hvx : validI tx with
    | true =>
      rw [hvx] at HVx
      have HR : Hid (R = (tx, 0)) := by show _ = _; rw [HA.out, if_pos hvx]
      clear HA hvx hv
      go_enter Tryd.func34, Tryd.ntmps34
      go_wp2_with (first | (go_at_call_of 44 (Value.int .i64 t); refine (HV.out _).mono ?_; rintro e w1 ⟨rfl, rfl⟩) | (go_at_call_of 44 (Value.int .i64 tx); refine (HVx.out _).mono ?_; rintro e w1 ⟨rfl, rfl⟩) | (go_at_call 68; refine (HU.out _).mono ?_; rintro e w1 ⟨rfl, rfl⟩) | (go_at_call 49; refine (HW1.out _).mono ?_; rintro e w1 ⟨rfl, rfl⟩))
      go_ret2
      exact ⟨by rw [HR.out]; first | done | rfl, Below.refl _ _⟩
    | false =>
      rw [hvx] at HVx
      have HR : Hid (R = (0, 7)) := by show _ = _; rw [HA.out, if_neg (by rw [hvx]; exact Bool.false_ne_true)]
      clear HA hvx hv
      go_enter Tryd.func34, Tryd.ntmps34
      go_wp2_with (first | (go_at_call_of 44 (Value.int .i64 t); refine (HV.out _).mono ?_; rintro e w1 ⟨rfl, rfl⟩) | (go_at_call_of 44 (Value.int .i64 tx); refine (HVx.out _).mono ?_; rintro e w1 ⟨rfl, rfl⟩) | (go_at_call 68; refine (HU.out _).mono ?_; rintro e w1 ⟨rfl, rfl⟩) | (go_at_call 49; refine (HW1.out _).mono ?_; rintro e w1 ⟨rfl, rfl⟩))
      go_ret2
      exact ⟨by rw [HR.out]; first | done | rfl, Below.refl _ _⟩
  · rw [hw1, decide_eq_false c1] at HW1
    have HR : Hid (R = (0, 7)) := by show _ = _; rw [HA.out, HFAR.out (by omega), if_neg (by exact Bool.false_ne_true)]
    clear hw1 HMUL HFAR HA hv c1
    go_enter Tryd.func34, Tryd.ntmps34
    go_wp2_with (first | (go_at_call 44; refine (HV.out _).mono ?_; rintro e w1 ⟨rfl, rfl⟩) | (go_at_call 68; refine (HU.out _).mono ?_; rintro e w1 ⟨rfl, rfl⟩) | (go_at_call 49; refine (HW1.out _).mono ?_; rintro e w1 ⟨rfl, rfl⟩))
    go_ret2
    exact ⟨by rw [HR.out]; first | done | rfl, Below.refl _ _⟩
end Go.Proofs.YtmidphmniikdpaaDoor
