/- Contracts of the leaves of packages text and threadbareref01: each call returns what the plain function says and leaves the world as it was. -/
import Derived.Test.YtkjeccndbdgghaaChecked
import Derived.Test.YtkjeccndbdgghaaPlain
import Derived.WalkKit
import Derived.WalkSpells
import Derived.WalkLawsBesides
import Derived.Handy
import Derived.Lib.Hide
namespace Go.Proofs.Ytkjeccndbdgghaa
open Go.RowKit

theorem ba_get (l : List UInt8) (k : Nat) (h : k < (⟨l.toArray⟩ : ByteArray).size) : (⟨l.toArray⟩ : ByteArray)[k] = l[k]'(show k < l.length from h) := rfl
theorem ba_extract (l : List UInt8) (a b : Nat) : (⟨l.toArray⟩ : ByteArray).extract a b = ⟨((l.drop a).take (b - a)).toArray⟩ := ByteArray.extract_mk l a b
theorem take_drop_all (l : List UInt8) (i : Nat) : (l.drop i).take (l.length - i) = l.drop i := List.take_of_length_le (by simp)
attribute [go_sem] ba_get ba_extract take_drop_all
theorem ret_int {k : IntKind} {a b : Int} (h : a = b) : Ending.returned (.int k a) = .returned (.int k b) := by rw [h]
theorem ret2_ii {k k' : IntKind} {a b a' b' : Int} (h : a = b) (h' : a' = b') : Ending.returned (.tuple #[.int k a, .int k' a']) = .returned (.tuple #[.int k b, .int k' b']) := by rw [h, h']
theorem ret_bool {a b : Bool} (h : a = b) : Ending.returned (.bool a) = .returned (.bool b) := by rw [h]

set_option maxHeartbeats 400000 in
theorem lower_any (c : Int) (h0 : 0 ≤ c) (h1 : c ≤ 255) (w : World) :
    Calls Try.prog 63 #[.int .u8 c] w fun e w' => e = .returned (.int .u8 (lowI c)) ∧ w = w' := by
  go_enter Try.func63, Try.ntmps63
  go_wp2
  all_goals (go_ret; exact ⟨ret_int (by unfold lowI; split <;> omega), rfl⟩)

set_option maxHeartbeats 400000 in
theorem upper_any (c : Int) (h0 : 0 ≤ c) (h1 : c ≤ 255) (w : World) :
    Calls Try.prog 65 #[.int .u8 c] w fun e w' => e = .returned (.int .u8 (upI c)) ∧ w = w' := by
  go_enter Try.func65, Try.ntmps65
  go_wp2
  all_goals (go_ret; exact ⟨ret_int (by unfold upI; split <;> omega), rfl⟩)

set_option maxHeartbeats 400000 in
theorem white_any (c : Int) (h0 : 0 ≤ c) (h1 : c ≤ 255) (w : World) :
    Calls Try.prog 25 #[.int .u8 c] w fun e w' => e = .returned (.bool (whiteI c)) ∧ w = w' := by
  go_enter Try.func25, Try.ntmps25
  go_wp2
  all_goals (go_ret; exact ⟨ret_bool (by unfold whiteI; rw [Bool.eq_iff_iff]; simp; omega), rfl⟩)

set_option maxHeartbeats 400000 in
theorem decimal_any (c : Int) (h0 : 0 ≤ c) (h1 : c ≤ 255) (w : World) :
    Calls Try.prog 78 #[.int .u8 c] w fun e w' => e = .returned (.bool (decI c)) ∧ w = w' := by
  go_enter Try.func78, Try.ntmps78
  go_wp2
  all_goals (go_ret; exact ⟨ret_bool (by unfold decI; rw [Bool.eq_iff_iff]; simp; omega), rfl⟩)

set_option maxHeartbeats 400000 in
theorem within_any (n lo hi : Int) (w : World) :
    Calls Try.prog 67 #[.int .i64 n, .int .i64 lo, .int .i64 hi] w fun e w' => e = .returned (.bool (withinI n lo hi)) ∧ w = w' := by
  go_enter Try.func67, Try.ntmps67
  go_wp2
  all_goals (go_ret; exact ⟨ret_bool (by unfold withinI; rw [Bool.eq_iff_iff]; simp; omega), rfl⟩)

set_option maxHeartbeats 400000 in
theorem rwhite_any (c : Int) (h0 : 0 ≤ c) (h1 : c ≤ 255) (w : World) :
    Calls Try.prog 26 #[.int .u8 c] w fun e w' => e = .returned (.bool (whiteI c)) ∧ w = w' := by
  go_enter Try.func26, Try.ntmps26
  go_wp2_with (go_at_call 67; refine (within_any _ _ _ _).mono ?_; rintro e w' ⟨rfl, rfl⟩)
  all_goals (go_ret; exact ⟨ret_bool (by unfold whiteI; rw [Bool.eq_iff_iff]; simp_all [withinI] <;> omega), rfl⟩)

set_option maxHeartbeats 400000 in
theorem small_any (c : Int) (h0 : 0 ≤ c) (h1 : c ≤ 255) (w : World) :
    Calls Try.prog 64 #[.int .u8 c] w fun e w' => e = .returned (.int .u8 (lowI c)) ∧ w = w' := by
  go_enter Try.func64, Try.ntmps64
  go_wp2_with (go_at_call 67; refine (within_any _ _ _ _).mono ?_; rintro e w' ⟨rfl, rfl⟩)
  all_goals (go_ret; exact ⟨ret_int (by unfold lowI; split <;> simp_all [withinI] <;> omega), rfl⟩)

set_option maxHeartbeats 400000 in
theorem great_any (c : Int) (h0 : 0 ≤ c) (h1 : c ≤ 255) (w : World) :
    Calls Try.prog 66 #[.int .u8 c] w fun e w' => e = .returned (.int .u8 (upI c)) ∧ w = w' := by
  go_enter Try.func66, Try.ntmps66
  go_wp2_with (go_at_call 67; refine (within_any _ _ _ _).mono ?_; rintro e w' ⟨rfl, rfl⟩)
  all_goals (go_ret; exact ⟨ret_int (by unfold upI; split <;> simp_all [withinI] <;> omega), rfl⟩)

set_option maxHeartbeats 400000 in
theorem bounds_any (n a b : Int) (hn : 1 ≤ n) (hn' : n ≤ 9223372036854775807) (w : World) :
    Calls Try.prog 70 #[.int .i64 n, .int .i64 a, .int .i64 b] w fun e w' => e = .returned (.tuple #[.int .i64 (max a 0), .int .i64 (min b (n - 1))]) ∧ w = w' := by
  go_enter Try.func70, Try.ntmps70
  go_wp2
  all_goals (go_ret2; exact ⟨ret2_ii (by omega) (by omega), rfl⟩)


set_option maxHeartbeats 400000 in
theorem has_any (l : List UInt8) (hs : l.length ≤ 1000000) (c : Int) (w : World) :
    Calls Try.prog 68 #[.string ⟨l.toArray⟩, .int .u8 c] w fun e w' => e = .returned (.bool (l.any fun x => (x.toNat : Int) == c)) ∧ w = w' := by
  go_enter Try.func68, Try.ntmps68
  go_wp2
  go_loop [8] (fun i => ∃ k : Nat, k ≤ l.length ∧ i = .int .i64 k ∧ Hid ((l.take k).any (fun x => (x.toNat : Int) == c) = false)) (fun i => l.length - (intOf i).toNat)
  case atStart => exact ⟨0, Nat.zero_le _, rfl, rfl⟩
  case round =>
    obtain ⟨k, hk, rfl, H⟩ := hrel
    by_cases hlt : k < l.length
    · have HT := Lib.hid (List.take_succ_eq_append_getElem hlt)
      go_wp2
      · have h1 : ((l[k].toNat : Int) == c) = true := by assumption
        go_ret
        exact ⟨ret_bool (by symm; rw [List.any_eq_true]; exact ⟨l[k], List.getElem_mem _, h1⟩), rfl⟩
      · have h1 : ((l[k].toNat : Int) == c) = false := by assumption
        go_round
        case rel => exact ⟨k + 1, by omega, by go_num, Lib.hid (by rw [HT.out, List.any_append, H.out]; simp [h1])⟩
        case measure => simp [intOf]; omega
    · go_wp2
      go_ret
      have hk' : k = l.length := by omega
      subst hk'
      exact ⟨ret_bool (by rw [← H.out, List.take_length]), rfl⟩
end Go.Proofs.Ytkjeccndbdgghaa
