/- Contracts of the units: asked, add. -/
import Derived.Test.YtmidphmniikdpaaDoorCAdd1
import Derived.Test.YtmidphmniikdpaaDoorCWeek2
namespace Go.Proofs.YtmidphmniikdpaaDoor
set_option linter.unusedVariables false
set_option linter.unusedSimpArgs false
open Go.RowKit

def askedC (ts : List Int) (s : Bs) : Int × Int := if ts.all validI = true then (match unitC s with
  | some u => ((u : Int), 0)
  | none => (0, 5)) else (0, 7)
set_option maxRecDepth 100000 in
set_option maxHeartbeats 1600000 in
theorem asked_any (s : Bs) (ts : List Int) (hts : ts.length ≤ 100) (b cap : Nat) (w : World) (hc : ∀ k x, ts[k]? = some x → w.cell? ⟨b, k, none⟩ = some (.int .i64 x)) :
    Calls Tryd.prog 64 #[.string ⟨s.toArray⟩, .slice (some ⟨b, 0, none⟩) ts.length cap] w fun e w' => e = .returned (.tuple #[.int .i64 (askedC ts s).1, .int .i64 (askedC ts s).2]) ∧ w = w' := by
  have HC := Lib.hid hc
  have HU := Lib.hid (fun W => unitOf_any s W)
  have HV := Lib.hid (fun t W => valid_any t W)
  clear hc
  go_enter Tryd.func64, Tryd.ntmps64
  go_wp2_with fail
  go_loopw [7, 12] (fun v7 v12 wr => ∃ k : Nat, v12 = .int .i64 k ∧ k ≤ ts.length ∧ wr = w ∧ Hid (ts.all validI = (ts.drop k).all validI)) (fun _ v12 _ => ts.length - (intOf v12).toNat)
  case atStart => exact ⟨0, by go_num, Nat.zero_le _, by first | trivial | rfl, rfl⟩
  case round =>
    obtain ⟨k, rfl, hk, rfl, HA⟩ := hrel
    by_cases hlt : k < ts.length
    · have hx : ts[k]? = some ts[k] := List.getElem?_eq_getElem hlt
      have hck := HC.out k _ hx
      have hdrop : ts.drop k = ts[k] :: ts.drop (k + 1) := List.drop_eq_getElem_cons hlt
      generalize ts[k] = t at *
      have HV1 := Lib.hid (fun W => HV.out t W)
      have hkl : (k : Int) < (ts.length : Int) := by omega
      clear hx
      cases hv : validI t with
      | true =>
        have HR : Hid (ts.all validI = (ts.drop (k + 1)).all validI) := by show _ = _; rw [HA.out, hdrop, List.all_cons, hv]; rfl
        rw [hv] at HV1
        clear hdrop
        go_wp2_with (go_at_call 38; refine (HV1.out _).mono ?_; rintro e w1 ⟨rfl, rfl⟩)
        go_roundw
        case rel => exact ⟨k + 1, by go_num, by omega, by first | trivial | rfl, HR⟩
        case measure => simp [intOf]; omega
      | false =>
        have HR : Hid (askedC ts s = (0, 7)) := by
          show _ = _
          unfold askedC
          rw [HA.out, hdrop, List.all_cons, hv]; rfl
        rw [hv] at HV1
        clear hdrop
        go_wp2_with (go_at_call 38; refine (HV1.out _).mono ?_; rintro e w1 ⟨rfl, rfl⟩)
        go_ret2
        exact ⟨by rw [HR.out]; first | done | rfl, rfl⟩
    · obtain rfl : k = ts.length := by omega
      have HR : Hid (ts.all validI = true) := by show _ = _; rw [HA.out, List.drop_length]; rfl
      cases hu : unitC s with
      | none =>
        have HQ : Hid (askedC ts s = (0, 5)) := by show _ = _; unfold askedC; rw [HR.out, hu]; rfl
        rw [hu] at HU
        simp only [Option.getD_none, Option.isSome_none] at HU
        go_wp2_with (go_at_call 96; refine (HU.out _).mono ?_; rintro e w1 ⟨rfl, rfl⟩)
        go_ret2
        exact ⟨by rw [HQ.out]; first | done | rfl, rfl⟩
      | some u =>
        have HQ : Hid (askedC ts s = ((u : Int), 0)) := by show _ = _; unfold askedC; rw [HR.out, hu]; rfl
        rw [hu] at HU
        simp only [Option.getD_some, Option.isSome_some] at HU
        go_wp2_with (go_at_call 96; refine (HU.out _).mono ?_; rintro e w1 ⟨rfl, rfl⟩)
        go_ret2
        exact ⟨by rw [HQ.out]; first | done | rfl, rfl⟩

/-- Seconds to weeks. -/
theorem add_far {t n s : Int} (hs : s = 1 ∨ s = 60 ∨ s = 3600 ∨ s = 86400 ∨ s = 604800) (hv : validI t = true) (h : n < -(1000000000000 / s) ∨ 1000000000000 / s < n) : validI (t + n * s) = false := by
  have h1 := (validI_iff t).1 hv
  rw [← Bool.not_eq_true, validI_iff]
  rcases hs with rfl | rfl | rfl | rfl | rfl <;> omega
set_option maxRecDepth 100000 in
set_option maxHeartbeats 1600000 in
theorem add_secs (t n : Int) (u : Nat) (hu : u ≤ 6) (hs : secU u = 1 ∨ secU u = 60 ∨ secU u = 3600 ∨ secU u = 86400 ∨ secU u = 604800) (hv : validI t = true) (w : World) :
    Calls Tryd.prog 65 #[.int .i64 t, .int .i64 n, .int .i64 (u : Int)] w fun e w' => e = .returned (.tuple #[.int .i64 (addC t n u).1, .int .i64 (addC t n u).2]) ∧ Below w.heap.size w w' := by
  have h1 := (validI_iff t).1 hv
  have HS := Lib.hid (fun W => seconds_any u hu W)
  have HFAR := Lib.hid (add_far (t := t) (n := n) hs hv)
  have HA := Lib.hid (add_sec (t := t) (n := n) (u := u) (by omega))
  have q : ∃ B, 1000000000000 / secU u = B ∧ (-1000000000000 : Int).tdiv (secU u) = -B ∧ (1000000000000 : Int).tdiv (secU u) = B ∧ 1 ≤ secU u ∧ secU u ≤ 604800 ∧ B * secU u ≤ 1000000000000 ∧ 1 ≤ B ∧ B ≤ 1000000000000 := by
    refine ⟨_, rfl, ?_⟩
    rcases hs with h | h | h | h | h <;> rw [h] <;> decide
  have HMUL : Hid (∀ B : Int, -B ≤ n → n ≤ B → B * secU u ≤ 1000000000000 → -1000000000000 ≤ n * secU u ∧ n * secU u ≤ 1000000000000) := by
    intro B g1 g2 g3
    rcases hs with h | h | h | h | h <;> rw [h] at g3 ⊢ <;> omega
  generalize addC t n u = R at *
  clear hs
  generalize secU u = s at *
  obtain ⟨B, b1, b2, b3, b4, b5, b6, b7, b8⟩ := q
  rw [b1] at HFAR
  have hsn : (s == 0) = false := beq_eq_false_iff_ne.2 (by omega)
  have hs0 : ¬ s = 0 := by omega
  have HW1 := Lib.hid (fun W => within_any n (-1000000000000) 1000000000000 W)
  have hwB : IntKind.i64.wrap B = B := by simp [IntKind.wrap, IntKind.bits, IntKind.signed]; omega
  obtain ⟨A, hA⟩ : ∃ A, -B = A := ⟨_, rfl⟩
  rw [hA] at b2
  have hwA : IntKind.i64.wrap A = A := by simp [IntKind.wrap, IntKind.bits, IntKind.signed]; omega
  have HW2 := Lib.hid (fun W => within_any n A B W)
  have hw1 : winI n (-1000000000000) 1000000000000 = decide (-1000000000000 ≤ n ∧ n ≤ 1000000000000) := by simp [winI]
  have hw2 : winI n A B = decide (-B ≤ n ∧ n ≤ B) := by rw [hA]; simp [winI]
  by_cases c1 : -1000000000000 ≤ n ∧ n ≤ 1000000000000
  · rw [hw1, decide_eq_true c1] at HW1
    by_cases c2 : -B ≤ n ∧ n ≤ B
    · rw [hw2, decide_eq_true c2] at HW2
      have hx := HMUL.out B c2.1 c2.2 b6
      obtain ⟨x, hxe⟩ : ∃ x, n * s = x := ⟨_, rfl⟩
      rw [hxe] at hx HA
      have HV := Lib.hid (fun W => valid_any (t + x) W)
      clear hA hw1 hw2 HMUL HFAR b6 b1 c1 c2
      cases hvx : validI (t + x) with
      | true =>
        rw [hvx] at HV
        have HR : Hid (R = (t + x, 0)) := by show _ = _; rw [HA.out, if_pos hvx]
        clear HA hvx hv
        go_enter Tryd.func65, Tryd.ntmps65
        go_wp2_with (first | (go_at_call 47; refine (HW1.out _).mono ?_; rintro e w1 ⟨rfl, rfl⟩) | (go_at_call 66; refine (HS.out _).mono ?_; rintro e w1 ⟨rfl, rfl⟩))
        go_quiet ((go_at_call_of 47 B; exact Calls.quiet_of_same ((HW2.out _).mono fun e w1 h => ⟨h.1, h.2.symm⟩)))
        go_wp2_with (go_at_call 38; refine (HV.out _).mono ?_; rintro e w1 ⟨rfl, rfl⟩)
        go_ret2
        exact ⟨by rw [HR.out]; first | done | rfl, below_drewN (Below.refl _ _) _⟩
      | false =>
        rw [hvx] at HV
        have HR : Hid (R = (0, 7)) := by show _ = _; rw [HA.out, if_neg (by rw [hvx]; exact Bool.false_ne_true)]
        clear HA hvx hv
        go_enter Tryd.func65, Tryd.ntmps65
        go_wp2_with (first | (go_at_call 47; refine (HW1.out _).mono ?_; rintro e w1 ⟨rfl, rfl⟩) | (go_at_call 66; refine (HS.out _).mono ?_; rintro e w1 ⟨rfl, rfl⟩))
        go_quiet ((go_at_call_of 47 B; exact Calls.quiet_of_same ((HW2.out _).mono fun e w1 h => ⟨h.1, h.2.symm⟩)))
        go_wp2_with (go_at_call 38; refine (HV.out _).mono ?_; rintro e w1 ⟨rfl, rfl⟩)
        go_ret2
        exact ⟨by rw [HR.out]; first | done | rfl, below_drewN (Below.refl _ _) _⟩
    · rw [hw2, decide_eq_false c2] at HW2
      have HR : Hid (R = (0, 7)) := by show _ = _; rw [HA.out, HFAR.out (by omega), if_neg (by exact Bool.false_ne_true)]
      clear hA hw1 hw2 HMUL HFAR b6 b1 c1 c2 HA hv
      go_enter Tryd.func65, Tryd.ntmps65
      go_wp2_with (first | (go_at_call 47; refine (HW1.out _).mono ?_; rintro e w1 ⟨rfl, rfl⟩) | (go_at_call 66; refine (HS.out _).mono ?_; rintro e w1 ⟨rfl, rfl⟩))
      go_quiet ((go_at_call_of 47 B; exact Calls.quiet_of_same ((HW2.out _).mono fun e w1 h => ⟨h.1, h.2.symm⟩)))
      go_wp2_with fail
      go_ret2
      exact ⟨by rw [HR.out]; first | done | rfl, below_drewN (Below.refl _ _) _⟩
  · rw [hw1, decide_eq_false c1] at HW1
    have HR : Hid (R = (0, 7)) := by show _ = _; rw [HA.out, HFAR.out (by omega), if_neg (by exact Bool.false_ne_true)]
    clear hA hw1 hw2 HMUL HFAR b6 b1 HA hv
    go_enter Tryd.func65, Tryd.ntmps65
    go_wp2_with (go_at_call 47; refine (HW1.out _).mono ?_; rintro e w1 ⟨rfl, rfl⟩)
    go_ret2
    exact ⟨by rw [HR.out]; first | done | rfl, Below.refl _ _⟩
end Go.Proofs.YtmidphmniikdpaaDoor
