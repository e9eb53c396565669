/- Contract of the clock's beginnings of units: Start. -/
import Derived.Test.YtmidphmniikdpaaDoorCSta5
import Derived.Test.YtmidphmniikdpaaDoorCSta6
namespace Go.Proofs.YtmidphmniikdpaaDoor
set_option linter.unusedVariables false
set_option linter.unusedSimpArgs false
open Go.RowKit

theorem Start_any (t : Int) (s : Bs) (w : World) :
    Calls Tryd.prog 36 #[.int .i64 t, .string ⟨s.toArray⟩] w fun e w' => e = .returned (.tuple #[.int .i64 (startR t s).1, .int .i64 (startR t s).2]) ∧ Below w.heap.size w w' := by
  by_cases hv : validI t = true
  · cases hu : unitC s with
    | some u =>
      have hR : startR t s = (startC t u, 0) := by unfold startR; rw [if_pos hv, hu]
      rw [hR]
      have h6 := unitC_le hu
      rcases (show (u = 0 ∨ u = 1 ∨ u = 2 ∨ u = 3 ∨ u = 5 ∨ u = 6) ∨ u = 4 by omega) with h | rfl
      · exact Start_n t s u hu h hv w
      · exact Start_w t s hu hv w
    | none =>
      have hR : startR t s = (0, 5) := by unfold startR; rw [if_pos hv, hu]
      rw [hR]
      exact Start_err t s 5 (.inr ⟨hv, hu, rfl⟩) w
  · have hR : startR t s = (0, 7) := by unfold startR; rw [if_neg hv]
    rw [hR]
    exact Start_err t s 7 (.inl ⟨by simpa using hv, rfl⟩) w
end Go.Proofs.YtmidphmniikdpaaDoor
