/- What Unset keeps. -/
import Derived.Test.YtodajjhchngkgaaBookD
namespace Go.Proofs.Ytodajjhchngkgaa
set_option linter.unusedVariables false
set_option linter.unusedSimpArgs false
open Go.RowKit

end Go.Proofs.Ytodajjhchngkgaa
