/- 'each', 'Lower' and 'Upper' of package text and of threadbareref01: every byte changed; the memory that was there stands. -/
import Derived.Test.YtkjeccndbdgghaaLeaf
import Derived.Test.YtkjeccndbdgghaaHeap
namespace Go.Proofs.Ytkjeccndbdgghaa
open Go.RowKit

set_option maxHeartbeats 400000 in
theorem each_lower (l : Bs) (hl : l.length ≤ 1000000) (w : World) :
    Calls Try.prog 62 #[.string ⟨l.toArray⟩, .func (.func 63) #[] #[]] w fun e w' => e = .returned (.string ⟨(lowS l).toArray⟩) ∧ Below w.heap.size w w' := by
  go_enter Try.func62, Try.ntmps62
  go_wp2_with (refine wpList_bytes rfl _ _ 5 _ rfl Try.underlying9 Try.underlying50 Try.underlying5 l rfl ?_; intro w1 cap hB hsz hR)
  go_loopw [12] (fun i wr => ∃ k : Nat, k ≤ l.length ∧ i = .int .i64 k ∧ BRow wr w.heap.size (upto lowB l k) ∧ Below w.heap.size w wr) (fun i wr => l.length - (intOf i).toNat)
  case atStart => exact ⟨0, Nat.zero_le _, rfl, by rw [upto_zero]; exact hR, hB⟩
  case round =>
    obtain ⟨k, hk, rfl, hr, hb⟩ := hrel
    have hlen := upto_len lowB l k
    by_cases hlt : k < l.length
    · have hkk : k < (upto lowB l k).length := by omega
      have hc := hr.cell hkk
      have hf := hr.free hkk
      rw [upto_get lowB l k hlt] at hc
      have hs := hr.set hkk (lowB l[k])
      rw [lowB_toNat, upto_set lowB l k hlt] at hs
      have h255 := byte_lt l[k]
      clear hlen hkk
      go_wp2_with (go_at_call 63; refine (lower_any _ (by omega) (by omega) _).mono ?_; rintro e w' ⟨rfl, rfl⟩)
      go_roundw
      case rel => exact ⟨k + 1, by omega, by go_num, hs, hb.setCell (Nat.le_refl _) _⟩
      case measure => simp [intOf]; omega
    · have hk' : k = l.length := by omega
      subst hk'
      rw [upto_all] at hr
      have hcv := run_back (P := Try.prog) 50 9 5 Try.underlying50 Try.underlying5 Try.underlying9 (cap := cap) (n := l.length) hr (by simp)
      clear hlen hR hB hsz
      go_wp2
      go_ret
      exact ⟨rfl, hb⟩

set_option maxHeartbeats 400000 in
theorem each_upper (l : Bs) (hl : l.length ≤ 1000000) (w : World) :
    Calls Try.prog 62 #[.string ⟨l.toArray⟩, .func (.func 65) #[] #[]] w fun e w' => e = .returned (.string ⟨(upS l).toArray⟩) ∧ Below w.heap.size w w' := by
  go_enter Try.func62, Try.ntmps62
  go_wp2_with (refine wpList_bytes rfl _ _ 5 _ rfl Try.underlying9 Try.underlying50 Try.underlying5 l rfl ?_; intro w1 cap hB hsz hR)
  go_loopw [12] (fun i wr => ∃ k : Nat, k ≤ l.length ∧ i = .int .i64 k ∧ BRow wr w.heap.size (upto upB l k) ∧ Below w.heap.size w wr) (fun i wr => l.length - (intOf i).toNat)
  case atStart => exact ⟨0, Nat.zero_le _, rfl, by rw [upto_zero]; exact hR, hB⟩
  case round =>
    obtain ⟨k, hk, rfl, hr, hb⟩ := hrel
    have hlen := upto_len upB l k
    by_cases hlt : k < l.length
    · have hkk : k < (upto upB l k).length := by omega
      have hc := hr.cell hkk
      have hf := hr.free hkk
      rw [upto_get upB l k hlt] at hc
      have hs := hr.set hkk (upB l[k])
      rw [upB_toNat, upto_set upB l k hlt] at hs
      have h255 := byte_lt l[k]
      clear hlen hkk
      go_wp2_with (go_at_call 65; refine (upper_any _ (by omega) (by omega) _).mono ?_; rintro e w' ⟨rfl, rfl⟩)
      go_roundw
      case rel => exact ⟨k + 1, by omega, by go_num, hs, hb.setCell (Nat.le_refl _) _⟩
      case measure => simp [intOf]; omega
    · have hk' : k = l.length := by omega
      subst hk'
      rw [upto_all] at hr
      have hcv := run_back (P := Try.prog) 50 9 5 Try.underlying50 Try.underlying5 Try.underlying9 (cap := cap) (n := l.length) hr (by simp)
      clear hlen hR hB hsz
      go_wp2
      go_ret
      exact ⟨rfl, hb⟩

set_option maxHeartbeats 400000 in
theorem Lower_any (l : Bs) (hl : l.length ≤ 1000000) (w : World) :
    Calls Try.prog 19 #[.string ⟨l.toArray⟩] w fun e w' => e = .returned (.string ⟨(lowS l).toArray⟩) ∧ Below w.heap.size w w' := by
  go_enter Try.func19, Try.ntmps19
  go_wp2_with (go_at_call 62; refine (each_lower l hl _).mono ?_; rintro e w' ⟨rfl, hb⟩)
  go_ret
  exact ⟨rfl, hb⟩

set_option maxHeartbeats 400000 in
theorem Upper_any (l : Bs) (hl : l.length ≤ 1000000) (w : World) :
    Calls Try.prog 21 #[.string ⟨l.toArray⟩] w fun e w' => e = .returned (.string ⟨(upS l).toArray⟩) ∧ Below w.heap.size w w' := by
  go_enter Try.func21, Try.ntmps21
  go_wp2_with (go_at_call 62; refine (each_upper l hl _).mono ?_; rintro e w' ⟨rfl, hb⟩)
  go_ret
  exact ⟨rfl, hb⟩

end Go.Proofs.Ytkjeccndbdgghaa
