/- NamesPaths: the reference: Absolute, of, cut, Tail. -/
import Derived.Test.YtjgdfgpnmmkjfaaDoorNWalk4
namespace Go.Proofs.YtjgdfgpnmmkjfaaDoor
set_option linter.unusedVariables false
set_option linter.unusedSimpArgs false
open Go.RowKit

theorem rAbsolute_any (s : Bs) (hs : s.length ≤ 1000000) (w : World) : Calls Tryd.prog 10 #[.string ⟨s.toArray⟩] w fun e w' => e = .returned (.bool (absN s)) ∧ w = w' := by
  match s with
  | [] =>
    go_enter Tryd.func10, Tryd.ntmps10
    go_wp2
    go_ret
    exact ⟨rfl, rfl⟩
  | [c] =>
    have h : absN [c] = false := by
      unfold absN
      split
      · rename_i e; simp at e
      · rfl
    rw [h]
    go_enter Tryd.func10, Tryd.ntmps10
    go_wp2
    go_ret
    exact ⟨rfl, rfl⟩
  | c :: d :: r =>
    have hb : absN (c :: d :: r) = ([c, d] == ([58, 58] : Bs)) := by
      by_cases hc : c = 58
      · by_cases hd : d = 58
        · subst hc hd; rfl
        · rw [abs_not_head (.inr hd)]; symm; rw [beq_eq_false_iff_ne]; intro e; cases e; exact hd rfl
      · rw [abs_not_head (.inl hc)]; symm; rw [beq_eq_false_iff_ne]; intro e; cases e; exact hc rfl
    rw [hb]
    have hrl : r.length ≤ 1000000 := by simp at hs; omega
    have t1 : decide ((1 : Int) < ((c :: d :: r).length : Int)) = true := by rw [decide_eq_true_eq]; simp only [List.length_cons]; omega
    clear hb
    go_enter Tryd.func10, Tryd.ntmps10
    go_wp2
    all_goals
      go_ret
      refine ⟨?_, rfl⟩
      first | rfl | (simp; done) | skip
theorem col_in {s : Bs} {b k : Nat} (h : k < col (s.drop b)) : ∃ h : b + k < s.length, s[b + k] = 58 := by
  obtain ⟨q1, _⟩ := col_take (s.drop b)
  have hl := col_le (s.drop b)
  have hl2 := hl
  rw [List.length_drop] at hl2
  have hm : ((s.drop b).take (col (s.drop b)))[k]? = some ((s.drop b)[k]'(by omega)) := by
    rw [List.getElem?_take, if_pos h, List.getElem?_eq_getElem (by omega)]
  have := q1 _ (List.mem_of_getElem? hm)
  rw [List.getElem_drop] at this
  exact ⟨by omega, this⟩
theorem col_out {s : Bs} {b : Nat} (h : b + col (s.drop b) < s.length) : s[b + col (s.drop b)] ≠ 58 := by
  have h5 := (col_take (s.drop b)).2
  rw [List.drop_drop, List.head?_drop, List.getElem?_eq_getElem h] at h5
  exact fun e => h5 (by rw [e])
def rtoI (o : Option (Nat × Nat)) : Int := match o with | none => -1 | some p => (p.2 : Int)
set_option maxRecDepth 100000 in
set_option maxHeartbeats 1600000 in
theorem rcut_any (s : Bs) (hs : s.length ≤ 1000000) (w : World) : Calls Tryd.prog 26 #[.string ⟨s.toArray⟩] w fun e w' => e = .returned (.tuple #[.int .i64 (fromI (cutN s)), .int .i64 (rtoI (cutN s))]) ∧ w = w' := by
  go_enter Tryd.func26, Tryd.ntmps26
  go_wp2_with fail
  go_loopg [2, 3, 4, 5] s.length (fun g fr to i n wr => ∃ (b : Nat) (x y : Int), b + g = s.length ∧ i = .int .i64 (b : Int) ∧ fr = .int .i64 x ∧ to = .int .i64 y ∧ w = wr ∧ Hid (OutR s b ∧ x = fromI (lastN s b) ∧ y = rtoI (lastN s b)))
  case atStart => exact ⟨0, -1, -1, by omega, rfl, rfl, rfl, rfl, .inl rfl, rfl, rfl⟩
  case round =>
    obtain ⟨b, x, y, hbg, rfl, rfl, rfl, rfl, HI⟩ := hrel
    obtain ⟨go, hgo⟩ : ∃ go, go = gk := ⟨gk, rfl⟩
    subst hgo
    by_cases hlt : b < s.length
    · have hcl := col_le (s.drop b)
      rw [List.length_drop] at hcl
      have t0 : decide ((b : Int) < (s.length : Int)) = true := by rw [decide_eq_true_eq]; omega
      obtain ⟨m, hm⟩ : ∃ m, m = col (s.drop b) := ⟨_, rfl⟩
      have HM := Lib.hid hm
      rw [← hm] at hcl
      clear hm
      go_wp2_with fail
      go_loopg [5] m (fun g n wr => ∃ k : Nat, k + g = m ∧ n = .int .i64 (k : Int) ∧ w = wr)
      case atStart => exact ⟨0, by omega, rfl, rfl⟩
      case round =>
        obtain ⟨k, hkg, rfl, rfl⟩ := hrel
        by_cases hk : k < m
        · obtain ⟨h1, h2⟩ := col_in (s := s) (b := b) (k := k) (by rw [← HM.out]; exact hk)
          have t1 : decide ((b : Int) + (k : Int) < (s.length : Int)) = true := by rw [decide_eq_true_eq]; omega
          have HK := Lib.hid (And.intro hkg hk)
          clear HI
          go_wp2_with fail
          go_roundg (gk - 1)
          case measure => have := HK.out; omega
          case rel => have := HK.out; exact ⟨k + 1, by omega, by push_cast; rfl, rfl⟩
        · obtain rfl : k = m := by omega
          have hkl : k ≤ 1000000 := by omega
          by_cases h3 : b + k < s.length
          · have h4 : s[b + k] ≠ 58 := by
              have hmm := HM.out
              have := col_out (s := s) (b := b) (by rw [← hmm]; exact h3)
              simpa only [← hmm] using this
            have h4b : ((s[b + k].toNat : Int) == 58) = false := by
              rw [beq_eq_false_iff_ne]
              intro e
              have e2 : s[b + k].toNat = 58 := by omega
              exact h4 (UInt8.toNat_inj.1 e2)
            have t1 : decide ((b : Int) + (k : Int) < (s.length : Int)) = true := by rw [decide_eq_true_eq]; omega
            by_cases hm2 : 2 ≤ k
            · have t4 : decide ((2 : Int) ≤ (k : Int)) = true := by rw [decide_eq_true_eq]; omega
              have t5 : max (k : Int) 1 = (k : Int) := by omega
              have HA : Hid (OutR s (b + k) ∧ lastN s (b + k) = some (b, b + k)) := by
                have h2 : 2 ≤ col (s.drop b) := by rw [← HM.out]; exact hm2
                have hrun : RunAt s b := by
                  refine ⟨h2, ?_⟩
                  rcases HI.out.1 with h | h | h
                  · exact .inl h
                  · exact .inr h
                  · rw [col_none h] at h2; omega
                have h6 := last_run hrun _ (by omega) (Nat.le_refl _)
                have h5 := (col_take (s.drop b)).2
                rw [List.drop_drop, List.head?_drop] at h5
                rw [← HM.out] at h5 h6
                exact ⟨.inr (.inr h5), h6⟩
              have HG := Lib.hid (And.intro hbg (And.intro hlt (And.intro hcl hm2)))
              clear HI
              go_wp2_with fail
              go_roundg (go - k)
              case measure => have := HG.out; omega
              case rel =>
                have h1 := HG.out
                obtain ⟨a1, a2⟩ := HA.out
                exact ⟨b + k, (b : Int), ((b + k : Nat) : Int), by omega, by push_cast; rfl, rfl, by push_cast; rfl, rfl, a1, by rw [a2]; rfl, by rw [a2]; rfl⟩
            · have t4 : decide ((2 : Int) ≤ (k : Int)) = false := by rw [decide_eq_false_iff_not]; omega
              have t5 : max (k : Int) 1 = 1 := by omega
              have HA : Hid (OutR s (b + 1) ∧ x = fromI (lastN s (b + 1)) ∧ y = rtoI (lastN s (b + 1))) := by
                have hmm := HM.out
                rw [last_skip (by omega)]
                refine ⟨?_, HI.out.2⟩
                by_cases h5 : s[b]? = some 58
                · have h6 := col_drop_pred h5
                  refine .inr (.inr (fun h7 => ?_))
                  have h8 := col_drop_pred h7
                  omega
                · exact .inr (.inl (by simpa using h5))
              have HG := Lib.hid (And.intro hbg hlt)
              clear HI
              go_wp2_with fail
              go_roundg (go - 1)
              case measure => have := HG.out; omega
              case rel => have h1 := HG.out; exact ⟨b + 1, x, y, by omega, by push_cast; rfl, rfl, rfl, rfl, HA⟩
          · have t1 : decide ((b : Int) + (k : Int) < (s.length : Int)) = false := by rw [decide_eq_false_iff_not]; omega
            by_cases hm2 : 2 ≤ k
            · have t4 : decide ((2 : Int) ≤ (k : Int)) = true := by rw [decide_eq_true_eq]; omega
              have t5 : max (k : Int) 1 = (k : Int) := by omega
              have HA : Hid (OutR s (b + k) ∧ lastN s (b + k) = some (b, b + k)) := by
                have h2 : 2 ≤ col (s.drop b) := by rw [← HM.out]; exact hm2
                have hrun : RunAt s b := by
                  refine ⟨h2, ?_⟩
                  rcases HI.out.1 with h | h | h
                  · exact .inl h
                  · exact .inr h
                  · rw [col_none h] at h2; omega
                have h6 := last_run hrun _ (by omega) (Nat.le_refl _)
                have h5 := (col_take (s.drop b)).2
                rw [List.drop_drop, List.head?_drop] at h5
                rw [← HM.out] at h5 h6
                exact ⟨.inr (.inr h5), h6⟩
              have HG := Lib.hid (And.intro hbg (And.intro hlt (And.intro hcl hm2)))
              clear HI
              go_wp2_with fail
              go_roundg (go - k)
              case measure => have := HG.out; omega
              case rel =>
                have h1 := HG.out
                obtain ⟨a1, a2⟩ := HA.out
                exact ⟨b + k, (b : Int), ((b + k : Nat) : Int), by omega, by push_cast; rfl, rfl, by push_cast; rfl, rfl, a1, by rw [a2]; rfl, by rw [a2]; rfl⟩
            · have t4 : decide ((2 : Int) ≤ (k : Int)) = false := by rw [decide_eq_false_iff_not]; omega
              have t5 : max (k : Int) 1 = 1 := by omega
              have HA : Hid (OutR s (b + 1) ∧ x = fromI (lastN s (b + 1)) ∧ y = rtoI (lastN s (b + 1))) := by
                have hmm := HM.out
                rw [last_skip (by omega)]
                refine ⟨?_, HI.out.2⟩
                by_cases h5 : s[b]? = some 58
                · have h6 := col_drop_pred h5
                  refine .inr (.inr (fun h7 => ?_))
                  have h8 := col_drop_pred h7
                  omega
                · exact .inr (.inl (by simpa using h5))
              have HG := Lib.hid (And.intro hbg hlt)
              clear HI
              go_wp2_with fail
              go_roundg (go - 1)
              case measure => have := HG.out; omega
              case rel => have h1 := HG.out; exact ⟨b + 1, x, y, by omega, by push_cast; rfl, rfl, rfl, rfl, HA⟩
    · obtain rfl : b = s.length := by omega
      have t0 : decide ((s.length : Int) < (s.length : Int)) = false := by rw [decide_eq_false_iff_not]; omega
      have HR : Hid (x = fromI (cutN s) ∧ y = rtoI (cutN s)) := HI.out.2
      clear HI
      go_wp2_with fail
      go_ret2
      exact ⟨ret2_ii HR.out.1 HR.out.2, rfl⟩
end Go.Proofs.YtjgdfgpnmmkjfaaDoor
