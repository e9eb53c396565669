/- Contracts of the reference's weekday and Easter, and of both Weekdays. -/
import Derived.Test.YtkahakhhdiffcaaGreatDoorCEaster
namespace Go.Proofs.YtkahakhhdiffcaaGreatDoor
set_option linter.unusedVariables false
set_option linter.unusedSimpArgs false
open Go.RowKit

set_option maxRecDepth 100000 in
theorem rweekday_any (t : Int) (ht : -62135596800 ≤ t) (ht2 : t ≤ 300000000000) (w : World) :
    Calls Tryz.prog 26 #[.int .i64 t] w fun e w' => e = .returned (.int .i64 (wdC t)) ∧ w = w' := by
  obtain ⟨n, hn⟩ : ∃ n, t - -62135596800 = n := ⟨_, rfl⟩
  have hn0 : 0 ≤ n ∧ n ≤ 400000000000 := by omega
  obtain ⟨q, hq⟩ : ∃ q, n / 86400 = q := ⟨_, rfl⟩
  have hq0 : 0 ≤ q ∧ q ≤ 5000000 := by omega
  have a1 : n.tdiv 86400 = q := by rw [Int.tdiv_eq_ediv_of_nonneg hn0.1]; exact hq
  have a2 : q.tmod 7 = q % 7 := Int.tmod_eq_emod_of_nonneg hq0.1
  have hr : wdC t = q % 7 + 1 := by unfold wdC dayOf; omega
  rw [hr]
  clear hr hq ht ht2
  go_enter Tryz.func26, Tryz.ntmps26
  go_wp2_with fail
  go_ret
  exact ⟨rfl, rfl⟩
noncomputable def weekdayC (t : Int) : Int × Int := if validI t = true then (wdC t, 0) else (0, 7)
end Go.Proofs.YtkahakhhdiffcaaGreatDoor
