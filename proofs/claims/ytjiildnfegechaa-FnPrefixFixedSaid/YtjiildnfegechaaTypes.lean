/-
  Closed facts on the program's types.
-/
import Derived.Test.YtjiildnfegechaaRules5
import Derived.Test.YtjiildnfegechaaChecked
namespace Go.Proofs.Ytjiildnfegechaa
set_option linter.unusedVariables false
set_option linter.unusedSimpArgs false
set_option linter.unnecessarySimpa false
open Go.RowKit

theorem st_int : SlT Try.prog 22 3 1 8 (.int .i64 0) := ⟨by kernel_rfl, by kernel_rfl, rfl, by decide, by decide⟩
theorem t_int : Try.prog.underlying 3 = some (.int .i64) := by kernel_rfl
theorem t_bool : Try.prog.underlying 4 = some .bool := by kernel_rfl
theorem sz_int : (Try.prog.info? 3).map (·.size) = some 1 := by kernel_rfl
end Go.Proofs.Ytjiildnfegechaa
