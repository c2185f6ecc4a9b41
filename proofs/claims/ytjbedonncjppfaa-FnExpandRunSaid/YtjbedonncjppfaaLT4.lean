/-
  The longest match is taken.
-/
import Derived.Test.YtjbedonncjppfaaLT3
namespace Go.Proofs.Ytjbedonncjppfaa
set_option linter.unusedVariables false
set_option linter.unusedSimpArgs false
set_option linter.unnecessarySimpa false
open Go.RowKit

end Go.Proofs.Ytjbedonncjppfaa
