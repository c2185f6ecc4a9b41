/-
  Contracts: what tokens stand for, the program's own.
-/
import Derived.Test.YtodlgfihpabdfaaK1
import Derived.Test.YtodlgfihpabdfaaPureT
namespace Go.Proofs.Ytodlgfihpabdfaa
set_option linter.unusedVariables false
set_option linter.unusedSimpArgs false
set_option linter.unnecessarySimpa false
open Go.RowKit

end Go.Proofs.Ytodlgfihpabdfaa
