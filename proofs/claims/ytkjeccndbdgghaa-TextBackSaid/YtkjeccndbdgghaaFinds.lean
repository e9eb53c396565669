/- Compare, Range, First, Last and Count, both ones. (First and Last of the reference: XFind.) -/
import Derived.Test.YtkjeccndbdgghaaRepeat
import Derived.Test.YtkjeccndbdgghaaFind
import Derived.Lib.IndexMore
namespace Go.Proofs.Ytkjeccndbdgghaa
open Go.RowKit

def rangeC (s : Bs) (fr tt : Int) : Bs := if max fr 0 ≤ min tt ((s.length : Int) - 1) then (s.drop (max fr 0).toNat).take ((min tt ((s.length : Int) - 1)).toNat + 1 - (max fr 0).toNat) else []
/-- What the reference's loop has put together in front of i. -/
def rg (s : Bs) (fr tt : Int) : Nat → Bs
  | 0 => []
  | i + 1 => if fr ≤ (i : Int) ∧ (i : Int) ≤ tt then rg s fr tt i ++ (s.drop i).take 1 else rg s fr tt i
theorem rg_len (s : Bs) (fr tt : Int) : ∀ i, (rg s fr tt i).length ≤ i
  | 0 => by simp [rg]
  | i + 1 => by
    have ih := rg_len s fr tt i
    rw [rg]
    split
    · simp; omega
    · omega
theorem rg_take (s : Bs) (fr tt : Int) : ∀ i, i ≤ s.length → rg s fr tt i = (s.take (min i (tt + 1).toNat)).drop (max fr 0).toNat
  | 0, _ => by simp [rg]
  | i + 1, h => by
    have ih := rg_take s fr tt i (by omega)
    rw [rg]
    by_cases hi : (i : Int) ≤ tt
    · rw [show min i (tt + 1).toNat = i from by omega] at ih
      rw [show min (i + 1) (tt + 1).toNat = i + 1 from by omega]
      have hd : (s.drop i).take 1 = [s[i]] := by rw [List.drop_eq_getElem_cons (show i < s.length by omega), List.take_succ_cons, List.take_zero]
      by_cases hf : fr ≤ (i : Int)
      · rw [if_pos ⟨hf, hi⟩, ih, hd, List.take_succ_eq_append_getElem (show i < s.length by omega), List.drop_append_of_le_length (by simp; omega)]
      · rw [if_neg (fun h => hf h.1), ih, List.drop_eq_nil_of_le (by simp; omega), List.drop_eq_nil_of_le (by simp; omega)]
    · rw [if_neg (fun h => hi h.2), ih, show min i (tt + 1).toNat = min (i + 1) (tt + 1).toNat from by omega]
theorem rg_all (s : Bs) (fr tt : Int) : rg s fr tt s.length = rangeC s fr tt := by
  rw [rg_take s fr tt s.length (Nat.le_refl _), rangeC]
  split
  · rename_i h
    rw [List.drop_take]
    congr 1; omega
  · rename_i h
    rw [List.drop_eq_nil_of_le (by simp; omega)]

set_option maxRecDepth 20000 in
set_option maxHeartbeats 800000 in
theorem Range_any (s : Bs) (fr tt : Int) (hs : s.length ≤ 1000000) (w : World) :
    Calls Try.prog 39 #[.string ⟨s.toArray⟩, .int .i64 fr, .int .i64 tt] w fun e w' => e = .returned (.string ⟨(rangeC s fr tt).toArray⟩) ∧ w = w' := by
  have hbd := fun W => bounds_all s.length fr tt (by omega) (by omega) W
  by_cases h : max fr 0 ≤ min tt ((s.length : Int) - 1)
  · rw [rangeC, if_pos h]
    obtain ⟨k, hk⟩ : ∃ k : Nat, max fr 0 = k := ⟨(max fr 0).toNat, by omega⟩
    obtain ⟨m, hm⟩ : ∃ m : Nat, min tt ((s.length : Int) - 1) = m := ⟨(min tt ((s.length : Int) - 1)).toNat, by omega⟩
    have hkm : k ≤ m := by omega
    have hml : m < s.length := by omega
    rw [hk, hm] at hbd
    rw [hk, hm, Int.toNat_natCast, Int.toNat_natCast]
    have HB := Lib.hid hbd
    clear hbd h hk hm
    go_enter Try.func39, Try.ntmps39
    go_wp2_with (go_at_call 70; refine (HB.out _).mono ?_; rintro e w' ⟨rfl, rfl⟩)
    go_ret
    exact ⟨rfl, rfl⟩
  · rw [rangeC, if_neg h]
    obtain ⟨a, ha⟩ : ∃ a, max fr 0 = a := ⟨_, rfl⟩
    obtain ⟨b, hb⟩ : ∃ b, min tt ((s.length : Int) - 1) = b := ⟨_, rfl⟩
    rw [ha, hb] at hbd h
    have HB := Lib.hid hbd
    clear hbd ha hb
    go_enter Try.func39, Try.ntmps39
    go_wp2_with (go_at_call 70; refine (HB.out _).mono ?_; rintro e w' ⟨rfl, rfl⟩)
    go_ret
    exact ⟨rfl, rfl⟩

attribute [local go_sem] ba_append in
set_option maxRecDepth 20000 in
set_option maxHeartbeats 800000 in
theorem rRange_any (s : Bs) (fr tt : Int) (hs : s.length ≤ 1000000) (w : World) :
    Calls Try.prog 40 #[.string ⟨s.toArray⟩, .int .i64 fr, .int .i64 tt] w fun e w' => e = .returned (.string ⟨(rangeC s fr tt).toArray⟩) ∧ w = w' := by
  have HALL := Lib.hid (rg_all s fr tt)
  have HLEN := Lib.hid (rg_len s fr tt)
  go_enter Try.func40, Try.ntmps40
  go_wp2_with fail
  go_loopw [7, 11] (fun v7 v11 wr => ∃ (k : Nat) (acc : Bs), k ≤ s.length ∧ v7 = .string ⟨acc.toArray⟩ ∧ v11 = .int .i64 k ∧ w = wr ∧ Hid (acc = rg s fr tt k) ∧ acc.length ≤ k) (fun _ v11 _ => s.length - (intOf v11).toNat)
  case atStart => exact ⟨0, [], Nat.zero_le _, rfl, rfl, by first | trivial | rfl, rfl, by simp⟩
  case round =>
    obtain ⟨k, acc, hk, rfl, rfl, rfl, HA, hal⟩ := hrel
    by_cases hlt : k < s.length
    · have hk1 : k + 1 - k = 1 := by omega
      by_cases hw : fr ≤ (k : Int) ∧ (k : Int) ≤ tt
      · have HT : Hid (acc ++ (s.drop k).take 1 = rg s fr tt (k + 1)) := by show _ = _; rw [rg, if_pos hw, HA.out]
        have t1 : withinI k fr tt = true := by simpa [withinI] using hw
        clear hw
        go_wp2_with (go_at_call 67; refine (within_any _ _ _ _).mono ?_; rintro e w' ⟨rfl, rfl⟩; (try rw [t1]))
        go_roundw
        case rel => exact ⟨k + 1, acc ++ (s.drop k).take 1, by omega, by simp [hk1], by go_num, by first | trivial | rfl, HT, by simp; omega⟩
        case measure => simp [intOf]; omega
      · have HT : Hid (acc = rg s fr tt (k + 1)) := by show _ = _; rw [rg, if_neg hw, HA.out]
        have t1 : withinI k fr tt = false := by simpa [withinI] using hw
        clear hw
        go_wp2_with (go_at_call 67; refine (within_any _ _ _ _).mono ?_; rintro e w' ⟨rfl, rfl⟩; (try rw [t1]))
        go_roundw
        case rel => exact ⟨k + 1, acc, by omega, rfl, by go_num, by first | trivial | rfl, HT, by omega⟩
        case measure => simp [intOf]; omega
    · obtain rfl : k = s.length := by omega
      go_wp2_with fail
      go_ret
      exact ⟨by rw [HA.out, HALL.out]; rfl, rfl⟩

theorem Compare_any (a b : Bs) (w : World) :
    Calls Try.prog 37 #[.string ⟨a.toArray⟩, .string ⟨b.toArray⟩] w fun e w' => e = .returned (.int .i64 (Lib.compareBytes a b)) ∧ w = w' := by
  have hc := fun W => (Try.strings_Compare ⟨a.toArray⟩ ⟨b.toArray⟩ W).mono (R' := fun e w' => e = .returned (.int .i64 (Lib.compareBytes a b)) ∧ W = w') fun e w' h => ⟨h.1, h.2.symm⟩
  have HC := Lib.hid hc
  clear hc
  go_enter Try.func37, Try.ntmps37
  go_wp2_with (go_at_call 71; refine (HC.out _).mono ?_; rintro e w' ⟨rfl, rfl⟩)
  go_ret
  exact ⟨rfl, rfl⟩
end Go.Proofs.Ytkjeccndbdgghaa
