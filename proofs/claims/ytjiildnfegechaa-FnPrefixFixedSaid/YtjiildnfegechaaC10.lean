/-
  Contracts: what tokens stand for, the program's own.
-/
import Derived.Test.YtjiildnfegechaaK1
import Derived.Test.YtjiildnfegechaaPureT
namespace Go.Proofs.Ytjiildnfegechaa
set_option linter.unusedVariables false
set_option linter.unusedSimpArgs false
set_option linter.unnecessarySimpa false
open Go.RowKit

end Go.Proofs.Ytjiildnfegechaa
