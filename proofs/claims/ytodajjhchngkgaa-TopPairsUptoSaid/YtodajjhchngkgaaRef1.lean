/- 'Lower', 'Upper', 'Reverse' of threadbareref01. -/
import Derived.Test.YtodajjhchngkgaaLeaf
import Derived.Test.YtodajjhchngkgaaHeap
namespace Go.Proofs.Ytodajjhchngkgaa
set_option linter.unusedVariables false
set_option linter.unusedSimpArgs false
open Go.RowKit
theorem Try.infoU8 : (Try.prog.info? 5).map (fun i => (i.zero, i.size, i.bytes)) = some (some (.int .u8 0), 1, 1) := by kernel_rfl

end Go.Proofs.Ytodajjhchngkgaa
