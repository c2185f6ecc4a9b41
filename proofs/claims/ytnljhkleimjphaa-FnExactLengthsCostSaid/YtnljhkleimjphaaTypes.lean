/-
  Closed facts on the program's types.
-/
import Derived.Test.YtnljhkleimjphaaRules5
import Derived.Test.YtnljhkleimjphaaChecked
namespace Go.Proofs.Ytnljhkleimjphaa
set_option linter.unusedVariables false
set_option linter.unusedSimpArgs false
set_option linter.unnecessarySimpa false
open Go.RowKit

theorem st_int : SlT Try.prog 29 3 1 8 (.int .i64 0) := ⟨by kernel_rfl, by kernel_rfl, rfl, by decide, by decide⟩
theorem t_int : Try.prog.underlying 3 = some (.int .i64) := by kernel_rfl
theorem sz_int : (Try.prog.info? 3).map (·.size) = some 1 := by kernel_rfl
theorem st_tok : SlT Try.prog 25 41 3 24 (.agg #[.int .i64 0, .int .i64 0, .int .i64 0]) := ⟨by kernel_rfl, by kernel_rfl, rfl, by decide, by decide⟩
theorem tk_tok : StT Try.prog 41 (.agg #[.int .i64 0, .int .i64 0, .int .i64 0]) 3 := ⟨by kernel_rfl, by kernel_rfl, rfl⟩
theorem z_tok : (Try.prog.info? 41).map (·.zero) = some (some (.agg #[.int .i64 0, .int .i64 0, .int .i64 0])) := by kernel_rfl
theorem sz_tok : (Try.prog.info? 41).map (·.size) = some 3 := by kernel_rfl
theorem fd_tok0 : FdT Try.prog 41 0 0 := by unfold FdT; kernel_rfl
theorem fd_tok1 : FdT Try.prog 41 1 1 := by unfold FdT; kernel_rfl
theorem fd_tok2 : FdT Try.prog 41 2 2 := by unfold FdT; kernel_rfl
theorem st_ltok : SlT Try.prog 22 43 3 24 (.agg #[.int .i64 0, .int .i64 0, .int .i64 0]) := ⟨by kernel_rfl, by kernel_rfl, rfl, by decide, by decide⟩
theorem tk_ltok : StT Try.prog 43 (.agg #[.int .i64 0, .int .i64 0, .int .i64 0]) 3 := ⟨by kernel_rfl, by kernel_rfl, rfl⟩
theorem fd_ltok0 : FdT Try.prog 43 0 0 := by unfold FdT; kernel_rfl
theorem fd_ltok1 : FdT Try.prog 43 1 1 := by unfold FdT; kernel_rfl
theorem fd_ltok2 : FdT Try.prog 43 2 2 := by unfold FdT; kernel_rfl
end Go.Proofs.Ytnljhkleimjphaa
