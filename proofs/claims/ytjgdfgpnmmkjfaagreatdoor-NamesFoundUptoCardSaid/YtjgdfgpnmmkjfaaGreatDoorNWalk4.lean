/- NamesPaths: last, Head, Tail of package names. -/
import Derived.Test.YtjgdfgpnmmkjfaaGreatDoorNWalk3
namespace Go.Proofs.YtjgdfgpnmmkjfaaGreatDoor
set_option linter.unusedVariables false
set_option linter.unusedSimpArgs false
open Go.RowKit

theorem col_none {s : Bs} {k : Nat} (h : s[k]? ≠ some 58) : col (s.drop k) = 0 := by
  cases hd : s.drop k with
  | nil => rfl
  | cons c r =>
    refine col_zero (fun e => h ?_)
    have := congrArg (·[0]?) hd
    simp at this
    rw [this, e]
/-- Behind the run that begins at b. -/
theorem last_run {s : Bs} {b : Nat} (h : RunAt s b) : ∀ m, 1 ≤ m → m ≤ col (s.drop b) → lastN s (b + m) = some (b, b + col (s.drop b))
  | 0, h1, _ => by omega
  | 1, _, _ => by rw [lastN]; exact if_pos h
  | m + 2, _, h2 => by
    have ih := last_run h (m + 1) (by omega) (by omega)
    rw [show b + (m + 2) = b + (m + 1) + 1 by omega, lastN, if_neg, ih]
    rintro ⟨_, h3 | h3⟩
    · omega
    · apply h3
      obtain ⟨q1, _⟩ := col_take (s.drop b)
      have hl := col_le (s.drop b)
      have hm : ((s.drop b).take (col (s.drop b)))[m]? = some ((s.drop b)[m]'(by omega)) := by
        rw [List.getElem?_take, if_pos (by omega), List.getElem?_eq_getElem (by omega)]
      have := q1 _ (List.mem_of_getElem? hm)
      rw [List.getElem_drop] at this
      rw [show b + (m + 1) - 1 = b + m by omega, List.getElem?_eq_getElem (by rw [List.length_drop] at hl; omega), this]
theorem last_skip {s : Bs} {b : Nat} (h : col (s.drop b) < 2) : lastN s (b + 1) = lastN s b := by
  rw [lastN, if_neg (fun e => by have := e.1; omega)]
def fromI (o : Option (Nat × Nat)) : Int := match o with | none => -1 | some p => (p.1 : Int)
def toI (o : Option (Nat × Nat)) : Int := match o with | none => 0 | some p => (p.2 : Int)
/-- The loop of 'last' is not within a run. -/
def OutR (s : Bs) (b : Nat) : Prop := b = 0 ∨ s[b-1]? ≠ some 58 ∨ s[b]? ≠ some 58
set_option maxRecDepth 100000 in
set_option maxHeartbeats 800000 in
theorem last_any (s : Bs) (hs : s.length ≤ 1000000) (w : World) : Calls Tryz.prog 33 #[.string ⟨s.toArray⟩] w fun e w' => e = .returned (.tuple #[.int .i64 (fromI (cutN s)), .int .i64 (toI (cutN s))]) ∧ w = w' := by
  have CO : Hid (∀ (k : Nat) W, Calls Tryz.prog 64 #[.string ⟨(s.drop k).toArray⟩] W fun e w' => e = .returned (.int .i64 (col (s.drop k) : Int)) ∧ W = w') := fun k W => colons_any _ (by rw [List.length_drop]; omega) W
  go_enter Tryz.func33, Tryz.ntmps33
  go_wp2_with fail
  go_loopg [2, 3, 4, 5] s.length (fun g fr to i n wr => ∃ (b : Nat) (x y : Int), b + g = s.length ∧ i = .int .i64 (b : Int) ∧ fr = .int .i64 x ∧ to = .int .i64 y ∧ w = wr ∧ Hid (OutR s b ∧ x = fromI (lastN s b) ∧ y = toI (lastN s b)))
  case atStart => exact ⟨0, -1, 0, by omega, rfl, rfl, rfl, rfl, .inl rfl, rfl, rfl⟩
  case round =>
    obtain ⟨b, x, y, hbg, rfl, rfl, rfl, rfl, HI⟩ := hrel
    by_cases hlt : b < s.length
    · have hcl := col_le (s.drop b)
      rw [List.length_drop] at hcl
      have CO2 := Lib.hid (CO.out b)
      have t0 : decide ((b : Int) < (s.length : Int)) = true := by rw [decide_eq_true_eq]; omega
      by_cases h2 : 2 ≤ col (s.drop b)
      · have hrun : RunAt s b := by
          refine ⟨h2, ?_⟩
          rcases HI.out.1 with h | h | h
          · exact .inl h
          · exact .inr h
          · rw [col_none h] at h2; omega
        have HA : Hid (OutR s (b + col (s.drop b)) ∧ lastN s (b + col (s.drop b)) = some (b, b + col (s.drop b))) := by
          refine ⟨.inr (.inr ?_), last_run hrun _ (by omega) (Nat.le_refl _)⟩
          have h5 := (col_take (s.drop b)).2
          rw [List.drop_drop, List.head?_drop] at h5
          exact h5
        generalize col (s.drop b) = n at *
        have HN := Lib.hid (And.intro h2 (And.intro hcl (And.intro hbg hlt)))
        have t1 : decide ((2 : Int) ≤ (n : Int)) = true := by rw [decide_eq_true_eq]; omega
        clear HI hrun
        go_wp2_with (go_at_call 64; refine (CO2.out _).mono ?_; rintro e w2 ⟨rfl, rfl⟩)
        go_roundg (gk - n)
        case measure => have := HN.out; omega
        case rel =>
          have h1 := HN.out
          obtain ⟨a1, a2⟩ := HA.out
          exact ⟨b + n, (b : Int), ((b + n : Nat) : Int), by omega, by push_cast; congr 1; omega, rfl, by push_cast; rfl, rfl, a1, by rw [a2]; rfl, by rw [a2]; rfl⟩
      · have HA : Hid (OutR s (b + 1) ∧ x = fromI (lastN s (b + 1)) ∧ y = toI (lastN s (b + 1))) := by
          rw [last_skip (by omega)]
          refine ⟨?_, HI.out.2⟩
          by_cases h5 : s[b]? = some 58
          · have h6 := col_drop_pred h5
            refine .inr (.inr (fun h7 => ?_))
            have h8 := col_drop_pred h7
            omega
          · exact .inr (.inl (by simpa using h5))
        generalize col (s.drop b) = n at *
        have t1 : decide ((2 : Int) ≤ (n : Int)) = false := by rw [decide_eq_false_iff_not]; omega
        have HN := Lib.hid (And.intro hbg hlt)
        clear HI
        go_wp2_with (go_at_call 64; refine (CO2.out _).mono ?_; rintro e w2 ⟨rfl, rfl⟩)
        go_roundg (gk - 1)
        case measure => have := HN.out; omega
        case rel => have h1 := HN.out; exact ⟨b + 1, x, y, by omega, by push_cast; rfl, rfl, rfl, rfl, HA⟩
    · obtain rfl : b = s.length := by omega
      have t0 : decide ((s.length : Int) < (s.length : Int)) = false := by rw [decide_eq_false_iff_not]; omega
      have HR : Hid (x = fromI (cutN s) ∧ y = toI (cutN s)) := HI.out.2
      clear HI
      go_wp2_with fail
      go_ret2
      exact ⟨ret2_ii HR.out.1 HR.out.2, rfl⟩
theorem cut_le {s : Bs} {f t : Nat} (h : cutN s = some (f, t)) : f ≤ s.length ∧ t ≤ s.length := by
  obtain ⟨h1, h2, h3, _⟩ := last_some h
  have := col_le (s.drop f)
  rw [List.length_drop] at this
  omega
theorem Head_any (s : Bs) (hs : s.length ≤ 100000) (w : World) : Calls Tryz.prog 13 #[.string ⟨s.toArray⟩] w fun e w' => e = .returned (.string ⟨(headN s).toArray⟩) ∧ Below w.heap.size w w' := by
  have LA := last_any s (by omega) w
  have CA : Hid (∀ p W, p.length ≤ 100000 → Calls Tryz.prog 19 #[.string ⟨#[58, 58]⟩, .string ⟨p.toArray⟩] W fun e w' => e = .returned (.string ⟨(canonN rootN p).toArray⟩) ∧ Below W.heap.size W w') := fun p W hp => Canonical_any rootN p (by decide) hp W
  unfold headN
  cases hc : cutN s with
  | none =>
    rw [hc] at LA
    have LA2 := Lib.hid LA
    have CA2 := Lib.hid (CA.out [] w (by simp))
    generalize canonN rootN [] = r at *
    clear LA CA hc
    go_enter Tryz.func13, Tryz.ntmps13
    go_wp2_with (first | (go_at_call 33; refine LA2.out.mono ?_; rintro e w1 ⟨rfl, rfl⟩; simp only [fromI, toI]) | (go_at_call 19; refine CA2.out.mono ?_; rintro e w2 ⟨rfl, hB⟩; have H2 := Lib.hid hB; clear hB))
    go_ret
    exact ⟨rfl, H2.out⟩
  | some ft =>
    obtain ⟨f, t⟩ := ft
    obtain ⟨hf, ht⟩ := cut_le hc
    rw [hc] at LA
    have LA2 := Lib.hid LA
    have CA2 := Lib.hid (CA.out (s.take f) w (by rw [List.length_take]; omega))
    show Calls Tryz.prog 13 #[.string ⟨s.toArray⟩] w fun e w' => e = .returned (.string ⟨(canonN rootN (s.take f)).toArray⟩) ∧ Below w.heap.size w w'
    generalize canonN rootN (s.take f) = r at *
    have t1 : max (f : Int) 0 = (f : Int) := by omega
    clear LA CA hc
    go_enter Tryz.func13, Tryz.ntmps13
    go_wp2_with (first | (go_at_call 33; refine LA2.out.mono ?_; rintro e w1 ⟨rfl, rfl⟩; simp only [fromI, toI]) | (go_at_call 19; refine CA2.out.mono ?_; rintro e w2 ⟨rfl, hB⟩; have H2 := Lib.hid hB; clear hB))
    go_ret
    exact ⟨rfl, H2.out⟩
theorem Tail_any (s : Bs) (hs : s.length ≤ 100000) (w : World) : Calls Tryz.prog 74 #[.string ⟨s.toArray⟩] w fun e w' => e = .returned (.string ⟨(tailN s).toArray⟩) ∧ w = w' := by
  have LA := last_any s (by omega) w
  unfold tailN
  cases hc : cutN s with
  | none =>
    rw [hc] at LA
    have LA2 := Lib.hid LA
    clear LA hc
    go_enter Tryz.func74, Tryz.ntmps74
    go_wp2_with (first | (go_at_call 33; refine LA2.out.mono ?_; rintro e w1 ⟨rfl, rfl⟩; simp only [fromI, toI]))
    go_ret
    exact ⟨rfl, rfl⟩
  | some ft =>
    obtain ⟨f, t⟩ := ft
    obtain ⟨hf, ht⟩ := cut_le hc
    rw [hc] at LA
    have LA2 := Lib.hid LA
    clear LA hc
    show Calls Tryz.prog 74 #[.string ⟨s.toArray⟩] w fun e w' => e = .returned (.string ⟨(s.drop t).toArray⟩) ∧ w = w'
    go_enter Tryz.func74, Tryz.ntmps74
    go_wp2_with (first | (go_at_call 33; refine LA2.out.mono ?_; rintro e w1 ⟨rfl, rfl⟩; simp only [fromI, toI]))
    go_ret
    exact ⟨rfl, rfl⟩
end Go.Proofs.YtjgdfgpnmmkjfaaGreatDoor
