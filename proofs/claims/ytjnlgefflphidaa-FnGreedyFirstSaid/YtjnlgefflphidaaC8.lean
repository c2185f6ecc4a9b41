/-
  Contracts: tokens brought over and laid side by side.
-/
import Derived.Test.YtjnlgefflphidaaC5
import Derived.Test.YtjnlgefflphidaaRules6
namespace Go.Proofs.Ytjnlgefflphidaa
set_option linter.unusedVariables false
set_option linter.unusedSimpArgs false
set_option linter.unnecessarySimpa false
open Go.RowKit

end Go.Proofs.Ytjnlgefflphidaa
