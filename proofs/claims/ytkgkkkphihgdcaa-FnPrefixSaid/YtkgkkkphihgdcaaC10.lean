/-
  Contracts: what tokens stand for, the program's own.
-/
import Derived.Test.YtkgkkkphihgdcaaK1
import Derived.Test.YtkgkkkphihgdcaaPureT
namespace Go.Proofs.Ytkgkkkphihgdcaa
set_option linter.unusedVariables false
set_option linter.unusedSimpArgs false
set_option linter.unnecessarySimpa false
open Go.RowKit

end Go.Proofs.Ytkgkkkphihgdcaa
