/-
  Contracts: tokens brought over and laid side by side.
-/
import Derived.Test.YtjbedonncjppfaaC5
import Derived.Test.YtjbedonncjppfaaRules6
namespace Go.Proofs.Ytjbedonncjppfaa
set_option linter.unusedVariables false
set_option linter.unusedSimpArgs false
set_option linter.unnecessarySimpa false
open Go.RowKit

end Go.Proofs.Ytjbedonncjppfaa
