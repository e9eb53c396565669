/- Repeat and Replace, both ones. -/
import Derived.Test.YtkjeccndbdgghaaMap1
import Derived.Test.YtkjeccndbdgghaaRef1
import Derived.Test.YtkjeccndbdgghaaShelf
import Derived.BigQuiet
import Derived.Deep.QuietTactic
namespace Go.Proofs.Ytkjeccndbdgghaa
open Go.RowKit

theorem ba_append (a b : Bs) : (⟨a.toArray⟩ : ByteArray) ++ ⟨b.toArray⟩ = ⟨(a ++ b).toArray⟩ := by
  apply ByteArray.ext
  simp

theorem repeatL_snoc (l : Bs) : ∀ c, Lib.repeatL l (c + 1) = Lib.repeatL l c ++ l
  | 0 => by simp [Lib.repeatL]
  | c + 1 => by
    show l ++ Lib.repeatL l (c + 1) = (l ++ Lib.repeatL l c) ++ l
    rw [repeatL_snoc l c, List.append_assoc]
theorem repeatL_nil : ∀ c, Lib.repeatL ([] : Bs) c = []
  | 0 => rfl
  | c + 1 => by rw [Lib.repeatL, repeatL_nil c]; rfl

/-- What both 'Repeat's tell. -/
def repC (s : Bs) (n : Int) : Bs × Int := if n < 1 ∨ s = [] then ([], 0) else if n * s.length ≤ 65536 then (Lib.repeatL s n.toNat, 0) else ([], 4)
theorem repC_none {s : Bs} {n : Int} (h : n < 1 ∨ s = []) : repC s n = ([], 0) := if_pos h
theorem repC_few {s : Bs} {n : Int} (h : ¬ (n < 1 ∨ s = [])) (h2 : n * s.length ≤ 65536) : repC s n = (Lib.repeatL s n.toNat, 0) := by rw [repC, if_neg h, if_pos h2]
theorem repC_much {s : Bs} {n : Int} (h : ¬ (n < 1 ∨ s = [])) (h2 : ¬ n * s.length ≤ 65536) : repC s n = ([], 4) := by rw [repC, if_neg h, if_neg h2]

set_option maxHeartbeats 800000 in
theorem Repeat_any (s : Bs) (n : Int) (hs : s.length ≤ 1000000) (w : World) :
    Calls Try.prog 33 #[.string ⟨s.toArray⟩, .int .i64 n] w fun e w' => e = .returned (.tuple #[.string ⟨(repC s n).1.toArray⟩, .int .i64 (repC s n).2]) ∧ Below w.heap.size w w' := by
  by_cases h1 : n < 1
  · rw [repC_none (.inl h1)]
    go_enter Try.func33, Try.ntmps33
    go_wp2_with fail
    go_ret2
    exact ⟨rfl, Below.refl _ _⟩
  · by_cases h2 : s = []
    · rw [repC_none (.inr h2)]
      subst h2
      go_enter Try.func33, Try.ntmps33
      go_wp2_with fail
      go_ret2
      exact ⟨rfl, Below.refl _ _⟩
    · have hne : s.isEmpty = false := by cases s with | nil => exact absurd rfl h2 | cons _ _ => rfl
      have hl : 1 ≤ s.length := by cases s with | nil => exact absurd rfl h2 | cons _ _ => simp
      have hmul : n * 1 ≤ n * (s.length : Int) := Int.mul_le_mul_of_nonneg_left (by omega) (by omega)
      by_cases h3 : 65536 < n
      · rw [repC_much (by simp [h1, h2]) (by omega)]
        go_enter Try.func33, Try.ntmps33
        go_wp2_with fail
        go_ret2
        exact ⟨rfl, Below.refl _ _⟩
      · have hm2 : n * (s.length : Int) ≤ 65536 * 1000000 := Int.mul_le_mul (by omega) (by omega) (by omega) (by omega)
        by_cases h4 : n * (s.length : Int) ≤ 65536
        · rw [repC_few (by simp [h1, h2]) h4]
          obtain ⟨k, rfl⟩ : ∃ k : Nat, n = k := ⟨n.toNat, by omega⟩
          have hrep : ∀ W, Calls Try.prog 69 #[.string ⟨s.toArray⟩, .int .i64 (k : Int)] W fun e w' => e = .returned (.string ⟨(Lib.repeatL s k).toArray⟩) ∧ Below W.heap.size W w' := by
            intro W
            by_cases hk : k = 1
            · subst hk
              refine (Try.strings_Repeat_one ⟨s.toArray⟩ W).mono fun e w' h => ⟨by rw [h.1]; simp [Lib.repeatL], h.2 ▸ Below.refl _ _⟩
            · refine (Try.strings_Repeat_main ⟨s.toArray⟩ k W (by omega) (by omega) ?_ (by simp only [ByteArray.size, List.size_toArray]; omega)).mono fun e w' h => h
              have : s.length * k ≤ 65536 := by
                have h5 : ((k * s.length : Nat) : Int) ≤ 65536 := by push_cast; exact h4
                rw [Nat.mul_comm]; omega
              simp only [ByteArray.size, List.size_toArray]; omega
          have HR := Lib.hid hrep
          have hnn : (0 : Int) ≤ (k : Int) * (s.length : Int) := Int.mul_nonneg (by omega) (by omega)
          clear hrep
          rw [Int.toNat_natCast]
          go_enter Try.func33, Try.ntmps33
          go_wp2_with (go_at_call 69; refine (HR.out _).mono ?_; rintro e w' ⟨rfl, hb⟩)
          go_ret2
          exact ⟨rfl, hb⟩
        · rw [repC_much (by simp [h1, h2]) h4]
          have hnn : (0 : Int) ≤ n * (s.length : Int) := Int.mul_nonneg (by omega) (by omega)
          go_enter Try.func33, Try.ntmps33
          go_wp2_with fail
          go_ret2
          exact ⟨rfl, Below.refl _ _⟩

/-- Out of the reference's loop. -/
theorem repC_lim {s : Bs} {n : Int} {i : Nat} (hne : s ≠ []) (hn : ¬ n < 1) (hi : (i : Int) ≤ n) (h : (i : Int) = n ∨ 65536 < (Lib.repeatL s i).length) : lim (Lib.repeatL s i) = repC s n := by
  have hl : 1 ≤ s.length := by cases s with | nil => exact absurd rfl hne | cons _ _ => simp
  have hlen := Lib.repeatL_length s i
  have hmul : (i : Int) * s.length ≤ n * s.length := Int.mul_le_mul_of_nonneg_right hi (by omega)
  have hlen2 : ((Lib.repeatL s i).length : Int) = (i : Int) * s.length := by rw [hlen]; push_cast; rfl
  by_cases h1 : (Lib.repeatL s i).length ≤ 65536
  · have hin : (i : Int) = n := by rcases h with h | h
                                   · exact h
                                   · omega
    rw [lim, if_pos h1, repC_few (by simp [hn, hne]) (by rw [← hin]; omega), ← hin, Int.toNat_natCast]
  · rw [lim, if_neg h1, repC_much (by simp [hn, hne]) (by omega)]

attribute [local go_sem] ba_append in
set_option maxHeartbeats 800000 in
theorem rRepeat_any (s : Bs) (n : Int) (hs : s.length ≤ 1000000) (w : World) :
    Calls Try.prog 34 #[.string ⟨s.toArray⟩, .int .i64 n] w fun e w' => e = .returned (.tuple #[.string ⟨(repC s n).1.toArray⟩, .int .i64 (repC s n).2]) ∧ w = w' := by
  by_cases h1 : n < 1
  · rw [repC_none (.inl h1)]
    have hlim := rlong_any [] (by simp)
    have HL := Lib.hid hlim
    clear hlim
    go_enter Try.func34, Try.ntmps34
    go_wp2_with fail
    go_loopw [6, 7] (fun v6 v7 wr => v6 = .string ⟨([] : Bs).toArray⟩ ∧ v7 = .int .i64 0 ∧ wr = w) (fun _ _ _ => 0)
    case atStart => exact ⟨rfl, rfl, rfl⟩
    case round =>
      obtain ⟨rfl, rfl, rfl⟩ := hrel
      go_wp2_with (go_at_call 54; refine (HL.out _).mono ?_; rintro e w' ⟨rfl, rfl⟩)
      go_ret2
      exact ⟨rfl, rfl⟩
  · by_cases h2 : s = []
    · rw [repC_none (.inr h2)]
      subst h2
      have hlim := rlong_any [] (by simp)
      have HL := Lib.hid hlim
      clear hlim
      go_enter Try.func34, Try.ntmps34
      go_wp2_with fail
      go_loopw [6, 7] (fun v6 v7 wr => v6 = .string ⟨([] : Bs).toArray⟩ ∧ v7 = .int .i64 0 ∧ wr = w) (fun _ _ _ => 0)
      case atStart => exact ⟨rfl, rfl, rfl⟩
      case round =>
        obtain ⟨rfl, rfl, rfl⟩ := hrel
        go_wp2_with (go_at_call 54; refine (HL.out _).mono ?_; rintro e w' ⟨rfl, rfl⟩)
        go_ret2
        exact ⟨rfl, rfl⟩
    · have hne : s.isEmpty = false := by cases s with | nil => exact absurd rfl h2 | cons _ _ => rfl
      have hne2 : (!s.isEmpty) = true := by rw [hne]; rfl
      have hl : 1 ≤ s.length := by cases s with | nil => exact absurd rfl h2 | cons _ _ => simp
      have HC : Hid (∀ i : Nat, (i : Int) ≤ n → ((i : Int) = n ∨ 65536 < (Lib.repeatL s i).length) → lim (Lib.repeatL s i) = repC s n) := fun i h3 h4 => repC_lim h2 h1 h3 h4
      have HN : Hid (∀ i : Nat, Lib.repeatL s (i + 1) = Lib.repeatL s i ++ s) := repeatL_snoc s
      have HL : Hid (∀ i : Nat, (Lib.repeatL s i).length = i * s.length) := Lib.repeatL_length s
      go_enter Try.func34, Try.ntmps34
      go_wp2_with fail
      go_loopw [6, 7] (fun v6 v7 wr => ∃ (i : Nat) (acc : Bs), v6 = .string ⟨acc.toArray⟩ ∧ v7 = .int .i64 i ∧ wr = w ∧ (i : Int) ≤ n ∧ Hid (acc = Lib.repeatL s i) ∧ acc.length ≤ 1065536 ∧ i ≤ acc.length ∧ (i ≤ 65537)) (fun _ v7 _ => 65538 - (intOf v7).toNat)
      case atStart => exact ⟨0, [], rfl, rfl, rfl, by omega, by first | trivial | rfl, by simp, by simp, by omega⟩
      case round =>
        obtain ⟨i, acc, rfl, rfl, rfl, hin, HA, hal, hil, hi2⟩ := hrel
        by_cases h3 : (i : Int) < n
        · by_cases h4 : acc.length ≤ 65536
          · have h5 : decide ((acc.length : Int) ≤ 65536) = true := by rw [decide_eq_true_eq]; omega
            have hal2 : acc.length ≤ 1065536 := hal
            go_wp2_with fail
            go_roundw
            case rel => exact ⟨i + 1, acc ++ s, rfl, by go_num, by first | trivial | rfl, by omega, by show _ = _; rw [HN.out, ← HA.out], by simp; omega, by simp; omega, by omega⟩
            case measure => simp [intOf]; omega
          · have hc := HC.out i hin (.inr (by rw [← HA.out]; omega))
            have hlim := rlong_any acc (by omega)
            rw [HA.out, hc, ← HA.out] at hlim
            have HLL := Lib.hid hlim
            clear hlim hc
            go_wp2_with (go_at_call 54; refine (HLL.out _).mono ?_; rintro e w' ⟨rfl, rfl⟩)
            go_ret2
            exact ⟨rfl, rfl⟩
        · have hc := HC.out i hin (.inl (by omega))
          have hlim := rlong_any acc (by omega)
          rw [HA.out, hc, ← HA.out] at hlim
          have HLL := Lib.hid hlim
          clear hlim hc
          go_wp2_with (go_at_call 54; refine (HLL.out _).mono ?_; rintro e w' ⟨rfl, rfl⟩)
          go_ret2
          exact ⟨rfl, rfl⟩

/-- What both 'Replace's make. -/
def replC (s t : Bs) (fr tt : Int) : Bs := if max fr 0 ≤ min tt ((s.length : Int) - 1) then s.take (max fr 0).toNat ++ t ++ s.drop ((min tt ((s.length : Int) - 1)).toNat + 1) else s
theorem replC_yes {s t : Bs} {fr tt : Int} (h : max fr 0 ≤ min tt ((s.length : Int) - 1)) : replC s t fr tt = s.take (max fr 0).toNat ++ t ++ s.drop ((min tt ((s.length : Int) - 1)).toNat + 1) := if_pos h
theorem replC_no {s t : Bs} {fr tt : Int} (h : ¬ max fr 0 ≤ min tt ((s.length : Int) - 1)) : replC s t fr tt = s := if_neg h

theorem bounds_all (n a b : Int) (hn : 0 ≤ n) (hn' : n ≤ 9223372036854775807) (w : World) :
    Calls Try.prog 70 #[.int .i64 n, .int .i64 a, .int .i64 b] w fun e w' => e = .returned (.tuple #[.int .i64 (max a 0), .int .i64 (min b (n - 1))]) ∧ w = w' := by
  go_enter Try.func70, Try.ntmps70
  go_wp2
  all_goals (go_ret2; exact ⟨ret2_ii (by omega) (by omega), rfl⟩)

attribute [local go_sem] ba_append in
set_option maxRecDepth 20000 in
set_option maxHeartbeats 800000 in
theorem Replace_any (s t : Bs) (fr tt : Int) (hs : s.length ≤ 1000000) (ht : t.length ≤ 1000000) (w : World) :
    Calls Try.prog 35 #[.string ⟨s.toArray⟩, .int .i64 fr, .int .i64 tt, .string ⟨t.toArray⟩] w fun e w' => e = .returned (.tuple #[.string ⟨(lim (replC s t fr tt)).1.toArray⟩, .int .i64 (lim (replC s t fr tt)).2]) ∧ ∃ m, w' = w.drewN m := by
  have hbd := fun W => bounds_all s.length fr tt (by omega) (by omega) W
  by_cases h : max fr 0 ≤ min tt ((s.length : Int) - 1)
  · rw [replC_yes h]
    obtain ⟨k, hk⟩ : ∃ k : Nat, max fr 0 = k := ⟨(max fr 0).toNat, by omega⟩
    obtain ⟨m, hm⟩ : ∃ m : Nat, min tt ((s.length : Int) - 1) = m := ⟨(min tt ((s.length : Int) - 1)).toNat, by omega⟩
    have hft : ¬ tt < fr := by omega
    have hkm : k ≤ m := by omega
    have hml : m < s.length := by omega
    rw [hk, hm] at hbd
    rw [hk, hm, Int.toNat_natCast, Int.toNat_natCast, List.append_assoc]
    have hlim := fun W => limited_any (s.take k ++ (t ++ s.drop (m + 1))) (by simp; omega) W
    have HB := Lib.hid hbd
    have HL := Lib.hid hlim
    clear hbd hlim h hk hm
    go_enter Try.func35, Try.ntmps35
    go_wp2_with (go_at_call 70; refine (HB.out _).mono ?_; rintro e w' ⟨rfl, rfl⟩)
    go_quiet ((go_at_call 52; exact Calls.quiet_of_same ((HL.out _).mono fun e w' h => ⟨h.1, h.2.symm⟩)))
    go_wp2_with fail
    go_ret2
    exact ⟨rfl, _, rfl⟩
  · rw [replC_no h]
    obtain ⟨a, ha⟩ : ∃ a, max fr 0 = a := ⟨_, rfl⟩
    obtain ⟨b, hb⟩ : ∃ b, min tt ((s.length : Int) - 1) = b := ⟨_, rfl⟩
    rw [ha, hb] at hbd h
    have hlim := fun W => limited_any s (by omega) W
    have HB := Lib.hid hbd
    have HL := Lib.hid hlim
    clear hbd hlim ha hb
    by_cases hft : tt < fr
    · go_enter Try.func35, Try.ntmps35
      go_wp2_with (first | (go_at_call 70; refine (HB.out _).mono ?_; rintro e w' ⟨rfl, rfl⟩) | (go_at_call 52; refine (HL.out _).mono ?_; rintro e w' ⟨rfl, rfl⟩))
      go_ret2
      exact ⟨rfl, 0, rfl⟩
    · go_enter Try.func35, Try.ntmps35
      go_wp2_with (first | (go_at_call 70; refine (HB.out _).mono ?_; rintro e w' ⟨rfl, rfl⟩) | (go_at_call 52; refine (HL.out _).mono ?_; rintro e w' ⟨rfl, rfl⟩))
      go_ret2
      exact ⟨rfl, 0, rfl⟩

attribute [local go_sem] ba_append in
set_option maxRecDepth 20000 in
set_option maxHeartbeats 800000 in
theorem rReplace_any (s t : Bs) (fr tt : Int) (hs : s.length ≤ 1000000) (ht : t.length ≤ 1000000) (w : World) :
    Calls Try.prog 36 #[.string ⟨s.toArray⟩, .int .i64 fr, .int .i64 tt, .string ⟨t.toArray⟩] w fun e w' => e = .returned (.tuple #[.string ⟨(lim (replC s t fr tt)).1.toArray⟩, .int .i64 (lim (replC s t fr tt)).2]) ∧ ∃ m, w' = w.drewN m := by
  by_cases h : max fr 0 ≤ min tt ((s.length : Int) - 1)
  · rw [replC_yes h]
    obtain ⟨k, hk⟩ : ∃ k : Nat, max fr 0 = k := ⟨(max fr 0).toNat, by omega⟩
    obtain ⟨m, hm⟩ : ∃ m : Nat, min tt ((s.length : Int) - 1) = m := ⟨(min tt ((s.length : Int) - 1)).toNat, by omega⟩
    have hkm : k ≤ m := by omega
    have hml : m < s.length := by omega
    rw [hk, hm, Int.toNat_natCast, Int.toNat_natCast, List.append_assoc]
    have hlim := fun W => rlong_any (s.take k ++ (t ++ s.drop (m + 1))) (by simp; omega) W
    have HL := Lib.hid hlim
    clear hlim h
    go_enter Try.func36, Try.ntmps36
    go_wp2_with fail
    go_quiet ((go_at_call 54; exact Calls.quiet_of_same ((HL.out _).mono fun e w' h => ⟨h.1, h.2.symm⟩)))
    go_wp2_with fail
    go_ret2
    exact ⟨rfl, _, rfl⟩
  · rw [replC_no h]
    obtain ⟨a, ha⟩ : ∃ a, max fr 0 = a := ⟨_, rfl⟩
    obtain ⟨b, hb⟩ : ∃ b, min tt ((s.length : Int) - 1) = b := ⟨_, rfl⟩
    rw [ha, hb] at h
    have hlim := fun W => rlong_any s (by omega) W
    have HL := Lib.hid hlim
    clear hlim
    go_enter Try.func36, Try.ntmps36
    go_wp2_with (go_at_call 54; refine (HL.out _).mono ?_; rintro e w' ⟨rfl, rfl⟩)
    go_ret2
    exact ⟨rfl, 0, rfl⟩
end Go.Proofs.Ytkjeccndbdgghaa
