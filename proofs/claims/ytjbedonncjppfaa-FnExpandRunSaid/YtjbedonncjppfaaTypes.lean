/-
  Closed facts on the program's types.
-/
import Derived.Test.YtjbedonncjppfaaRules5
import Derived.Test.YtjbedonncjppfaaChecked
namespace Go.Proofs.Ytjbedonncjppfaa
set_option linter.unusedVariables false
set_option linter.unusedSimpArgs false
set_option linter.unnecessarySimpa false
open Go.RowKit

theorem st_int : SlT Try.prog 23 3 1 8 (.int .i64 0) := ⟨by kernel_rfl, by kernel_rfl, rfl, by decide, by decide⟩
theorem t_int : Try.prog.underlying 3 = some (.int .i64) := by kernel_rfl
theorem t_bool : Try.prog.underlying 4 = some .bool := by kernel_rfl
theorem sz_int : (Try.prog.info? 3).map (·.size) = some 1 := by kernel_rfl
theorem st_tok : SlT Try.prog 32 27 3 24 (.agg #[.int .i64 0, .int .i64 0, .int .i64 0]) := ⟨by kernel_rfl, by kernel_rfl, rfl, by decide, by decide⟩
theorem tk_tok : StT Try.prog 27 (.agg #[.int .i64 0, .int .i64 0, .int .i64 0]) 3 := ⟨by kernel_rfl, by kernel_rfl, rfl⟩
theorem z_tok : (Try.prog.info? 27).map (·.zero) = some (some (.agg #[.int .i64 0, .int .i64 0, .int .i64 0])) := by kernel_rfl
theorem sz_tok : (Try.prog.info? 27).map (·.size) = some 3 := by kernel_rfl
theorem fd_tok0 : FdT Try.prog 27 0 0 := by unfold FdT; kernel_rfl
theorem fd_tok1 : FdT Try.prog 27 1 1 := by unfold FdT; kernel_rfl
theorem fd_tok2 : FdT Try.prog 27 2 2 := by unfold FdT; kernel_rfl
end Go.Proofs.Ytjbedonncjppfaa
