/- 'Lower', 'Upper', 'Reverse' of threadbareref01. The reference's First and Last: plainly, and walked. -/
import Derived.Test.YtjgdfgpnmmkjfaaGreatDoorLeaf
import Derived.Test.YtjgdfgpnmmkjfaaGreatDoorHeap
namespace Go.Proofs.YtjgdfgpnmmkjfaaGreatDoor
set_option linter.unusedVariables false
set_option linter.unusedSimpArgs false
open Go.RowKit
theorem Tryz.infoU8 : (Tryz.prog.info? 5).map (fun i => (i.zero, i.size, i.bytes)) = some (some (.int .u8 0), 1, 1) := by kernel_rfl

end Go.Proofs.YtjgdfgpnmmkjfaaGreatDoor
namespace Go.Proofs.YtjgdfgpnmmkjfaaGreatDoor
set_option linter.unusedVariables false
set_option linter.unusedSimpArgs false
open Go.RowKit

/-- The needle stands at k. -/
def stB (n s : Bs) (k : Nat) : Bool := (s.drop k).take n.length == n
theorem stB_len {n s : Bs} {k : Nat} (h : stB n s k = true) : n.length ≤ s.length - k := by
  have := congrArg List.length (beq_iff_eq.1 h)
  simp at this; omega

set_option maxHeartbeats 400000 in
theorem stands_any (n s : Bs) (k : Nat) (hn : n.length ≤ 1000000) (hs : s.length ≤ 1000000) (hk : k < s.length) (w : World) :
    Calls Tryz.prog 139 #[.string ⟨n.toArray⟩, .string ⟨s.toArray⟩, .int .i64 k] w fun e w' => e = .returned (.bool (stB n s k)) ∧ w = w' := by
  by_cases h : k + n.length ≤ s.length
  · have h1 : decide ((k : Int) ≤ (s.length : Int) - n.length) = true := by rw [decide_eq_true_eq]; omega
    go_enter Tryz.func139, Tryz.ntmps139
    go_wp2_with fail
    go_ret
    exact ⟨ret_bool (by simp [stB, List.take_drop, Bool.eq_iff_iff]), rfl⟩
  · have h1 : decide ((k : Int) ≤ (s.length : Int) - n.length) = false := by rw [decide_eq_false_iff_not]; omega
    have h2 : stB n s k = false := by
      rw [Bool.eq_false_iff]; intro h3; have := stB_len h3; omega
    rw [h2]
    go_enter Tryz.func139, Tryz.ntmps139
    go_wp2_with fail
    go_ret
    exact ⟨rfl, rfl⟩

/-- The first index from i on, of m, that P takes. -/
def fstG (P : Nat → Bool) : Nat → Nat → Int
  | 0, _ => -1
  | m + 1, i => if P i then i else fstG P m (i + 1)
def firstI (n s : Bs) (fr : Int) : Int := fstG (fun (i : Nat) => !n.isEmpty && decide (fr ≤ i) && stB n s i) s.length 0
/-- The last index below m that P takes. -/
def lstG (P : Nat → Bool) : Nat → Int
  | 0 => -1
  | m + 1 => if P m then m else lstG P m
def lastI (n s : Bs) (to : Int) : Int := lstG (fun (i : Nat) => !n.isEmpty && decide ((i : Int) ≤ to) && stB n s i) s.length

theorem fstG_spec (P : Nat → Bool) : ∀ (m i : Nat), (fstG P m i = -1 ∧ ∀ j, i ≤ j → j < i + m → P j = false) ∨ (∃ k, fstG P m i = (k : Nat) ∧ i ≤ k ∧ k < i + m ∧ P k = true ∧ ∀ j, i ≤ j → j < k → P j = false)
  | 0, i => .inl ⟨rfl, fun j h1 h2 => by omega⟩
  | m + 1, i => by
    unfold fstG
    by_cases h : P i = true
    · rw [if_pos h]; exact .inr ⟨i, rfl, Nat.le_refl _, by omega, h, fun j h1 h2 => by omega⟩
    · rw [if_neg h]
      have h' : P i = false := by simpa using h
      rcases fstG_spec P m (i + 1) with ⟨h1, h2⟩ | ⟨k, h1, h2, h3, h4, h5⟩
      · refine .inl ⟨h1, fun j h3 h4 => ?_⟩
        by_cases e : j = i
        · rw [e]; exact h'
        · exact h2 j (by omega) (by omega)
      · refine .inr ⟨k, h1, by omega, by omega, h4, fun j h6 h7 => ?_⟩
        by_cases e : j = i
        · rw [e]; exact h'
        · exact h5 j (by omega) (by omega)
theorem lstG_spec (P : Nat → Bool) : ∀ (m : Nat), (lstG P m = -1 ∧ ∀ j, j < m → P j = false) ∨ (∃ k, lstG P m = (k : Nat) ∧ k < m ∧ P k = true ∧ ∀ j, k < j → j < m → P j = false)
  | 0 => .inl ⟨rfl, fun j h2 => by omega⟩
  | m + 1 => by
    unfold lstG
    by_cases h : P m = true
    · rw [if_pos h]; exact .inr ⟨m, rfl, by omega, h, fun j h1 h2 => by omega⟩
    · rw [if_neg h]
      have h' : P m = false := by simpa using h
      rcases lstG_spec P m with ⟨h1, h2⟩ | ⟨k, h1, h2, h3, h4⟩
      · refine .inl ⟨h1, fun j h3 => ?_⟩
        by_cases e : j = m
        · rw [e]; exact h'
        · exact h2 j (by omega)
      · refine .inr ⟨k, h1, by omega, h3, fun j h6 h7 => ?_⟩
        by_cases e : j = m
        · rw [e]; exact h'
        · exact h4 j h6 (by omega)

set_option maxHeartbeats 800000 in
theorem rFirst_any (n s : Bs) (fr : Int) (hn : n.length ≤ 1000000) (hs : s.length ≤ 1000000) (w : World) :
    Calls Tryz.prog 125 #[.string ⟨n.toArray⟩, .string ⟨s.toArray⟩, .int .i64 fr] w fun e w' => e = .returned (.int .i64 (firstI n s fr)) ∧ w = w' := by
  obtain ⟨P, hP⟩ : ∃ P : Nat → Bool, P = fun (i : Nat) => !n.isEmpty && decide (fr ≤ (i : Int)) && stB n s i := ⟨_, rfl⟩
  have HP := Lib.hid hP
  have HF : Hid (firstI n s fr = fstG P s.length 0) := by show _ = _; rw [hP]; rfl
  clear hP
  go_enter Tryz.func125, Tryz.ntmps125
  go_wp2
  go_loop [7, 10] (fun _ v10 => ∃ k : Nat, k ≤ s.length ∧ v10 = .int .i64 k ∧ Hid (firstI n s fr = fstG P (s.length - k) k)) (fun _ v10 => s.length - (intOf v10).toNat)
  case atStart => exact ⟨0, Nat.zero_le _, rfl, HF⟩
  case round =>
    obtain ⟨k, hk, rfl, H⟩ := hrel
    by_cases hlt : k < s.length
    · have HS : Hid (firstI n s fr = if P k then (k : Int) else fstG P (s.length - (k + 1)) (k + 1)) := by
        show _ = _
        rw [H.out, show s.length - k = (s.length - (k + 1)) + 1 from by omega, fstG]
      have HK : Hid (P k = (!n.isEmpty && decide (fr ≤ (k : Int)) && stB n s k)) := by show _ = _; rw [HP.out]
      clear H HF
      by_cases hne : n = []
      · have HPk : Hid (P k = false) := by show _ = _; rw [HK.out]; simp [hne]
        have t1 : decide (n = []) = true := by simpa using hne
        clear HK
        go_wp2_with fail
        go_round
        case rel => exact ⟨k + 1, by omega, by go_num, by show _ = _; rw [HS.out, HPk.out]; rfl⟩
        case measure => simp [intOf]; omega
      · have t1 : (!n.isEmpty) = true := by simpa using hne
        have t3 : n.isEmpty = false := by simpa using hne
        by_cases hf : fr ≤ (k : Int)
        · have t2 : decide (fr ≤ (k : Int)) = true := by simpa using hf
          by_cases hst : stB n s k = true
          · have HPk : Hid (P k = true) := by show _ = _; rw [HK.out, hst, t2]; simp [hne]
            have HC := Lib.hid (stands_any n s k hn hs hlt w)
            rw [hst] at HC
            clear HK hst
            go_wp2_with (go_at_call 139; refine HC.out.mono ?_; rintro e w' ⟨rfl, rfl⟩)
            go_ret
            exact ⟨by rw [HS.out, HPk.out]; rfl, rfl⟩
          · have hst' : stB n s k = false := by simpa using hst
            have HPk : Hid (P k = false) := by show _ = _; rw [HK.out, hst']; simp
            have HC := Lib.hid (stands_any n s k hn hs hlt w)
            rw [hst'] at HC
            clear HK hst hst'
            go_wp2_with (go_at_call 139; refine HC.out.mono ?_; rintro e w' ⟨rfl, rfl⟩)
            go_round
            case rel => exact ⟨k + 1, by omega, by go_num, by show _ = _; rw [HS.out, HPk.out]; rfl⟩
            case measure => simp [intOf]; omega
        · have t2 : decide (fr ≤ (k : Int)) = false := by simpa using hf
          have HPk : Hid (P k = false) := by show _ = _; rw [HK.out, t2]; simp
          clear HK
          go_wp2_with fail
          go_round
          case rel => exact ⟨k + 1, by omega, by go_num, by show _ = _; rw [HS.out, HPk.out]; rfl⟩
          case measure => simp [intOf]; omega
    · obtain rfl : k = s.length := by omega
      go_wp2
      go_ret
      exact ⟨by rw [H.out, Nat.sub_self]; rfl, rfl⟩

end Go.Proofs.YtjgdfgpnmmkjfaaGreatDoor
