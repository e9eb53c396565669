/- What Unset keeps. -/
import Derived.Test.YtpaffocniniakaaBookD
namespace Go.Proofs.Ytpaffocniniakaa
set_option linter.unusedVariables false
set_option linter.unusedSimpArgs false
open Go.RowKit

set_option maxRecDepth 100000 in
set_option maxHeartbeats 400000 in
/-- The keeper of 'Unset': all keys but the path's first one. -/
theorem unset_keep {xb cb off n c : Nat} {p0 : Bs} (k x : Bs) (W : World) (hx : W.cell? ⟨xb, 0, none⟩ = some (.slice (some ⟨cb, off, none⟩) n c)) (hn : 0 < n) (hc : W.cell? ⟨cb, off, none⟩ = some (.string ⟨p0.toArray⟩)) :
    Calls Try.prog 48 #[.string ⟨k.toArray⟩, .string ⟨x.toArray⟩, .pointer (some ⟨xb, 0, none⟩)] W fun e w' => e = .returned (.bool (k != p0)) ∧ w' = W := by
  go_enter Try.func48, Try.ntmps48
  go_wp2_with fail
  go_ret
  exact ⟨by first | rfl | simp, rfl⟩
end Go.Proofs.Ytpaffocniniakaa
