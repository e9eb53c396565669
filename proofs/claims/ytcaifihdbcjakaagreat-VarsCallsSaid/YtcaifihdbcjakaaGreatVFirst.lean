/- The reference's First and Split, walked; Split is that of package vars (15.4). -/
import Derived.Test.YtcaifihdbcjakaaGreatVRead
namespace Go.Proofs.YtcaifihdbcjakaaGreat
set_option linter.unusedVariables false
set_option linter.unusedSimpArgs false
open Go.RowKit

theorem ret_bool {a b : Bool} (h : a = b) : Ending.returned (.bool a) = .returned (.bool b) := by rw [h]

/-- The needle stands at k. -/
def stB (n s : Bs) (k : Nat) : Bool := (s.drop k).take n.length == n
theorem stB_len {n s : Bs} {k : Nat} (h : stB n s k = true) : n.length ≤ s.length - k := by
  have := congrArg List.length (beq_iff_eq.1 h)
  simp at this; omega

set_option maxHeartbeats 400000 in
theorem stands_any (n s : Bs) (k : Nat) (hn : n.length ≤ 1000000) (hs : s.length ≤ 1000000) (hk : k < s.length) (w : World) :
    Calls Tryz.prog 127 #[.string ⟨n.toArray⟩, .string ⟨s.toArray⟩, .int .i64 k] w fun e w' => e = .returned (.bool (stB n s k)) ∧ w = w' := by
  by_cases h : k + n.length ≤ s.length
  · have h1 : decide ((k : Int) ≤ (s.length : Int) - n.length) = true := by rw [decide_eq_true_eq]; omega
    go_enter Tryz.func127, Tryz.ntmps127
    go_wp2_with fail
    go_ret
    exact ⟨ret_bool (by simp [stB, List.take_drop, Bool.eq_iff_iff]), rfl⟩
  · have h1 : decide ((k : Int) ≤ (s.length : Int) - n.length) = false := by rw [decide_eq_false_iff_not]; omega
    have h2 : stB n s k = false := by
      rw [Bool.eq_false_iff]; intro h3; have := stB_len h3; omega
    rw [h2]
    go_enter Tryz.func127, Tryz.ntmps127
    go_wp2_with fail
    go_ret
    exact ⟨rfl, rfl⟩

/-- The first index from i on, of m, that P takes. -/
def fstG (P : Nat → Bool) : Nat → Nat → Int
  | 0, _ => -1
  | m + 1, i => if P i then i else fstG P m (i + 1)
def firstI (n s : Bs) (fr : Int) : Int := fstG (fun (i : Nat) => !n.isEmpty && decide (fr ≤ i) && stB n s i) s.length 0
theorem fstG_spec (P : Nat → Bool) : ∀ (m i : Nat), (fstG P m i = -1 ∧ ∀ j, i ≤ j → j < i + m → P j = false) ∨ (∃ k, fstG P m i = (k : Nat) ∧ i ≤ k ∧ k < i + m ∧ P k = true ∧ ∀ j, i ≤ j → j < k → P j = false)
  | 0, i => .inl ⟨rfl, fun j h1 h2 => by omega⟩
  | m + 1, i => by
    unfold fstG
    by_cases h : P i = true
    · rw [if_pos h]; exact .inr ⟨i, rfl, Nat.le_refl _, by omega, h, fun j h1 h2 => by omega⟩
    · rw [if_neg h]
      have h' : P i = false := by simpa using h
      rcases fstG_spec P m (i + 1) with ⟨h1, h2⟩ | ⟨k, h1, h2, h3, h4, h5⟩
      · refine .inl ⟨h1, fun j h3 h4 => ?_⟩
        by_cases e : j = i
        · rw [e]; exact h'
        · exact h2 j (by omega) (by omega)
      · refine .inr ⟨k, h1, by omega, by omega, h4, fun j h6 h7 => ?_⟩
        by_cases e : j = i
        · rw [e]; exact h'
        · exact h5 j (by omega) (by omega)
set_option maxHeartbeats 800000 in
theorem rFirst_any (n s : Bs) (fr : Int) (hn : n.length ≤ 1000000) (hs : s.length ≤ 1000000) (w : World) :
    Calls Tryz.prog 107 #[.string ⟨n.toArray⟩, .string ⟨s.toArray⟩, .int .i64 fr] w fun e w' => e = .returned (.int .i64 (firstI n s fr)) ∧ w = w' := by
  obtain ⟨P, hP⟩ : ∃ P : Nat → Bool, P = fun (i : Nat) => !n.isEmpty && decide (fr ≤ (i : Int)) && stB n s i := ⟨_, rfl⟩
  have HP := Lib.hid hP
  have HF : Hid (firstI n s fr = fstG P s.length 0) := by show _ = _; rw [hP]; rfl
  clear hP
  go_enter Tryz.func107, Tryz.ntmps107
  go_wp2
  go_loop [7, 10] (fun _ v10 => ∃ k : Nat, k ≤ s.length ∧ v10 = .int .i64 k ∧ Hid (firstI n s fr = fstG P (s.length - k) k)) (fun _ v10 => s.length - (intOf v10).toNat)
  case atStart => exact ⟨0, Nat.zero_le _, rfl, HF⟩
  case round =>
    obtain ⟨k, hk, rfl, H⟩ := hrel
    by_cases hlt : k < s.length
    · have HS : Hid (firstI n s fr = if P k then (k : Int) else fstG P (s.length - (k + 1)) (k + 1)) := by
        show _ = _
        rw [H.out, show s.length - k = (s.length - (k + 1)) + 1 from by omega, fstG]
      have HK : Hid (P k = (!n.isEmpty && decide (fr ≤ (k : Int)) && stB n s k)) := by show _ = _; rw [HP.out]
      clear H HF
      by_cases hne : n = []
      · have HPk : Hid (P k = false) := by show _ = _; rw [HK.out]; simp [hne]
        have t1 : decide (n = []) = true := by simpa using hne
        clear HK
        go_wp2_with fail
        go_round
        case rel => exact ⟨k + 1, by omega, by go_num, by show _ = _; rw [HS.out, HPk.out]; rfl⟩
        case measure => simp [intOf]; omega
      · have t1 : (!n.isEmpty) = true := by simpa using hne
        have t3 : n.isEmpty = false := by simpa using hne
        by_cases hf : fr ≤ (k : Int)
        · have t2 : decide (fr ≤ (k : Int)) = true := by simpa using hf
          by_cases hst : stB n s k = true
          · have HPk : Hid (P k = true) := by show _ = _; rw [HK.out, hst, t2]; simp [hne]
            have HC := Lib.hid (stands_any n s k hn hs hlt w)
            rw [hst] at HC
            clear HK hst
            go_wp2_with (go_at_call 127; refine HC.out.mono ?_; rintro e w' ⟨rfl, rfl⟩)
            go_ret
            exact ⟨by rw [HS.out, HPk.out]; rfl, rfl⟩
          · have hst' : stB n s k = false := by simpa using hst
            have HPk : Hid (P k = false) := by show _ = _; rw [HK.out, hst']; simp
            have HC := Lib.hid (stands_any n s k hn hs hlt w)
            rw [hst'] at HC
            clear HK hst hst'
            go_wp2_with (go_at_call 127; refine HC.out.mono ?_; rintro e w' ⟨rfl, rfl⟩)
            go_round
            case rel => exact ⟨k + 1, by omega, by go_num, by show _ = _; rw [HS.out, HPk.out]; rfl⟩
            case measure => simp [intOf]; omega
        · have t2 : decide (fr ≤ (k : Int)) = false := by simpa using hf
          have HPk : Hid (P k = false) := by show _ = _; rw [HK.out, t2]; simp
          clear HK
          go_wp2_with fail
          go_round
          case rel => exact ⟨k + 1, by omega, by go_num, by show _ = _; rw [HS.out, HPk.out]; rfl⟩
          case measure => simp [intOf]; omega
    · obtain rfl : k = s.length := by omega
      go_wp2
      go_ret
      exact ⟨by rw [H.out, Nat.sub_self]; rfl, rfl⟩


/-- The first index of one byte. -/
theorem first_byte (c : UInt8) (s : Bs) : firstI [c] s 0 = Lib.indexByte s c := by
  obtain ⟨P, hP⟩ : ∃ P : Nat → Bool, (fun (i : Nat) => !([c] : Bs).isEmpty && decide ((0 : Int) ≤ i) && stB [c] s i) = P := ⟨_, rfl⟩
  have hPk : ∀ k, P k = stB [c] s k := by intro k; rw [← hP]; simp
  have key : ∀ (m k : Nat), m + k = s.length → fstG P m k = if Lib.indexByte (s.drop k) c = -1 then -1 else (k : Int) + Lib.indexByte (s.drop k) c := by
    intro m
    induction m with
    | zero => intro k hk; rw [List.drop_eq_nil_of_le (by omega)]; rfl
    | succ m ih =>
      intro k hk
      have hkl : k < s.length := by omega
      have hst : stB [c] s k = (s[k] == c) := by
        unfold stB
        rw [List.drop_eq_getElem_cons hkl]
        show (s[k] == c && true) = (s[k] == c)
        rw [Bool.and_true]
      have hb : Lib.indexByte (s.drop k) c = if (s[k] == c) = true then 0 else if (Lib.indexByte (s.drop (k + 1)) c == -1) = true then -1 else Lib.indexByte (s.drop (k + 1)) c + 1 := by
        rw [List.drop_eq_getElem_cons hkl]; rfl
      have hge := Lib.indexByte_ge (s.drop (k + 1)) c
      unfold fstG
      rw [hPk, hst, hb, ih (k + 1) (by omega)]
      cases hs : s[k] == c with
      | true => simp
      | false =>
        simp only [Bool.false_eq_true, if_false]
        by_cases hn : Lib.indexByte (s.drop (k + 1)) c = -1
        · simp [hn]
        · have h1 : ¬ (Lib.indexByte (s.drop (k + 1)) c + 1 = -1) := by omega
          have h2 : (Lib.indexByte (s.drop (k + 1)) c == -1) = false := by simpa using hn
          rw [if_neg hn, h2]
          simp only [Bool.false_eq_true, if_false]
          rw [if_neg h1]
          push_cast; omega
  have h := key s.length 0 (by omega)
  unfold firstI
  rw [hP, h, List.drop_zero]
  split
  · rename_i e; rw [e]
  · simp

set_option maxRecDepth 100000 in
set_option maxHeartbeats 800000 in
theorem rSplit_any (s : Bs) (hs : s.length ≤ 1000000) (w : World) :
    Calls Tryz.prog 76 #[.string ⟨s.toArray⟩] w fun e w' => e = .returned (.tuple #[.string ⟨(splitC s).1.toArray⟩, .string ⟨(splitC s).2.1.toArray⟩, .bool (splitC s).2.2]) ∧ ∃ m, w' = w.drewN m := by
  have hsl : s.length ≤ 9223372036854775807 := by omega
  have HIB : Hid (∀ W, Calls Tryz.prog 107 #[.string ⟨[40].toArray⟩, .string ⟨s.toArray⟩, .int .i64 0] W fun e w' => e = .returned (.int .i64 (Lib.indexByte s 40)) ∧ W = w') := by
    intro W
    have h := rFirst_any [40] s 0 (by simp) hs W
    rwa [first_byte] at h
  have HS : Hid (splitC s = if Lib.indexByte s 40 = -1 ∨ s.getLast? ≠ some 41 then (s, [], false) else (s.take (Lib.indexByte s 40).toNat, (s.drop ((Lib.indexByte s 40).toNat + 1)).take (s.length - 1 - ((Lib.indexByte s 40).toNat + 1)), true)) := rfl
  by_cases hi : Lib.indexByte s 40 = -1
  · rw [hi] at HIB HS
    have HR := Lib.hid (HS.out.trans (if_pos (.inl rfl)))
    clear HS hi
    go_enter Tryz.func76, Tryz.ntmps76
    go_wp2_with (go_at_call 107; refine (HIB.out _).mono ?_; rintro e w' ⟨rfl, rfl⟩)
    go_ret3
    exact ⟨by rw [HR.out]; rfl, 0, rfl⟩
  · have hge := Lib.indexByte_ge s 40
    obtain ⟨k, hk⟩ : ∃ k : Nat, Lib.indexByte s 40 = k := ⟨(Lib.indexByte s 40).toNat, by omega⟩
    have hks := (Lib.indexByte_some hk).1
    obtain ⟨hkl, hke⟩ := List.getElem?_eq_some_iff.1 hks
    have hl0 : 0 < s.length := by omega
    have hq : s.length - 1 < s.length := by omega
    have hlast : s.getLast? = some (s[s.length - 1]'hq) := by rw [List.getLast?_eq_getElem?, List.getElem?_eq_getElem hq]
    rw [hk] at HIB HS
    have e1 : ((s.length : Int) - 1).toNat = s.length - 1 := by omega
    have e2 : (0 : Int) ≤ (s.length : Int) - 1 := by omega
    have e3 : ¬ ((k : Int) < 0) := by omega
    by_cases h41 : (s[s.length - 1]'hq).toNat = 41
    · have h41b : s[s.length - 1]'hq = 41 := byte_inj h41
      have hk2 : k < s.length - 1 := by
        rcases Nat.lt_or_ge k (s.length - 1) with h | h
        · exact h
        · have : k = s.length - 1 := by omega
          subst this
          rw [hke] at h41; exact absurd h41 (by decide)
      have HR : Hid (splitC s = (s.take k, (s.drop (k + 1)).take (s.length - 1 - (k + 1)), true)) := by
        show _ = _
        rw [HS.out, if_neg]
        · simp
        · rintro (h | h)
          · omega
          · exact h (by rw [hlast, h41b])
      have t1 : (((s[s.length - 1]'hq).toNat : Int) != 41) = false := by simp; omega
      have e4 : (k : Int) + 1 ≤ (s.length : Int) - 1 := by omega
      have e5 : k + 1 ≤ s.length - 1 := by omega
      have e6 : (k : Int) ≤ (s.length : Int) := by omega
      have e7 : (s.length : Int) - 1 ≤ (s.length : Int) := by omega
      clear HS hk hks hke hlast h41 h41b hge hi
      go_enter Tryz.func76, Tryz.ntmps76
      go_wp2_with (go_at_call 107; refine (HIB.out _).mono ?_; rintro e w' ⟨rfl, rfl⟩)
      go_quiet (fail)
      go_wp2_with fail
      go_ret3
      exact ⟨by rw [HR.out]; simp, _, rfl⟩
    · have HR : Hid (splitC s = (s, [], false)) := by
        show _ = _
        rw [HS.out, if_pos]
        right
        rw [hlast]
        intro h; exact h41 (by rw [Option.some.inj h]; rfl)
      have t1 : (((s[s.length - 1]'hq).toNat : Int) != 41) = true := by simp; omega
      clear HS hk hks hke hlast h41 hge hi
      go_enter Tryz.func76, Tryz.ntmps76
      go_wp2_with (go_at_call 107; refine (HIB.out _).mono ?_; rintro e w' ⟨rfl, rfl⟩)
      go_ret3
      exact ⟨by rw [HR.out]; rfl, 0, rfl⟩

end Go.Proofs.YtcaifihdbcjakaaGreat
