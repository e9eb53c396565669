/- 'begins' of package text. -/
import Derived.Test.YtkjeccndbdgghaaEach
namespace Go.Proofs.Ytkjeccndbdgghaa
open Go.RowKit

set_option maxHeartbeats 400000 in
theorem begins_any (s t : Bs) (fold : Bool) (hs : s.length ≤ 1000000) (ht : t.length ≤ 1000000) (w : World) :
    Calls Try.prog 49 #[.string ⟨s.toArray⟩, .string ⟨t.toArray⟩, .bool fold] w fun e w' => e = .returned (.bool (begins s t fold)) ∧ Below w.heap.size w w' := by
  by_cases h : s.length < t.length
  · go_enter Try.func49, Try.ntmps49
    go_wp2
    go_ret
    exact ⟨ret_bool (by simp [begins]; omega), Below.refl _ _⟩
  · by_cases h1 : s.take t.length = t
    · go_enter Try.func49, Try.ntmps49
      go_wp2_with fail
      go_ret
      exact ⟨ret_bool (by simp [begins, h1]; omega), Below.refl _ _⟩
    · cases fold
      · go_enter Try.func49, Try.ntmps49
        go_wp2_with fail
        go_ret
        exact ⟨ret_bool (by simp [begins, h1]), Below.refl _ _⟩
      · go_enter Try.func49, Try.ntmps49
        go_wp2_with fail
        refine (Lower_any _ (by simp; omega) _).mono ?_
        rintro e w1 ⟨rfl, hb1⟩
        go_wp2_with fail
        refine (Lower_any _ (by omega) _).mono ?_
        rintro e w2 ⟨rfl, hb2⟩
        go_wp2_with fail
        go_ret
        exact ⟨ret_bool (by simp [begins, h1]; omega), hb1.trans (hb2.mono hb1.size)⟩
end Go.Proofs.Ytkjeccndbdgghaa
