/- 'Lower', 'Upper', 'Reverse' of threadbareref01. -/
import Derived.Test.YteojlmpipfajoaaGreatDoorLeaf
import Derived.Test.YteojlmpipfajoaaGreatDoorHeap
namespace Go.Proofs.YteojlmpipfajoaaGreatDoor
set_option linter.unusedVariables false
set_option linter.unusedSimpArgs false
open Go.RowKit
theorem Tryz.infoU8 : (Tryz.prog.info? 5).map (fun i => (i.zero, i.size, i.bytes)) = some (some (.int .u8 0), 1, 1) := by kernel_rfl

end Go.Proofs.YteojlmpipfajoaaGreatDoor
