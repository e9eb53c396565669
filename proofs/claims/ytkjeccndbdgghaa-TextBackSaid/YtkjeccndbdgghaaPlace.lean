/- 'Place' of package text, at the example that the sanity check asks. -/
import Derived.Test.YtkjeccndbdgghaaLeaf
import Derived.Test.YtkjeccndbdgghaaShelf
namespace Go.Proofs.Ytkjeccndbdgghaa
open Go.RowKit

set_option maxHeartbeats 400000 in
theorem number_one (w : World) :
    Calls Try.prog 79 #[.string ⟨[49].toArray⟩] w fun e w' => e = .returned (.tuple #[.int .i64 1, .bool true]) ∧ w = w' := by
  go_enter Try.func79, Try.ntmps79
  go_wp2_with (go_at_call 78; refine (decimal_any _ (by decide) (by decide) _).mono ?_; rintro e w' ⟨rfl, rfl⟩)
  refine wp_loop_rounds 2 ?_
  rw [rounds_succ]
  go_wp2_with (go_at_call 78; refine (decimal_any _ (by decide) (by decide) _).mono ?_; rintro e w' ⟨rfl, rfl⟩)
  rw [rounds_succ]
  go_wp2_with fail
  go_ret2
  exact ⟨rfl, rfl⟩

set_option maxHeartbeats 400000 in
theorem place_one (w : World) :
    Calls Try.prog 47 #[.string ⟨[101, 110, 100, 45, 49].toArray⟩, .int .i64 5] w fun e w' => e = .returned (.tuple #[.int .i64 3, .int .i64 0]) ∧ w = w' := by
  go_enter Try.func47, Try.ntmps47
  go_wp2_with (first | (go_at_call 76; refine (Try.strings_CutPrefix _ _ _).mono ?_; rintro e w' ⟨rfl, rfl⟩) | (go_at_call 79; refine (number_one _).mono ?_; rintro e w' ⟨rfl, rfl⟩))
  go_ret2
  exact ⟨rfl, rfl⟩
end Go.Proofs.Ytkjeccndbdgghaa
