/-
  Closed facts on the program's types.
-/
import Derived.Test.YtmkobefandfegaaRules5
import Derived.Test.YtmkobefandfegaaChecked
namespace Go.Proofs.Ytmkobefandfegaa
set_option linter.unusedVariables false
set_option linter.unusedSimpArgs false
set_option linter.unnecessarySimpa false
open Go.RowKit

theorem st_int : SlT Try.prog 29 3 1 8 (.int .i64 0) := ⟨by kernel_rfl, by kernel_rfl, rfl, by decide, by decide⟩
theorem t_int : Try.prog.underlying 3 = some (.int .i64) := by kernel_rfl
theorem t_bool : Try.prog.underlying 4 = some .bool := by kernel_rfl
theorem sz_int : (Try.prog.info? 3).map (·.size) = some 1 := by kernel_rfl
theorem st_tok : SlT Try.prog 25 49 3 24 (.agg #[.int .i64 0, .int .i64 0, .int .i64 0]) := ⟨by kernel_rfl, by kernel_rfl, rfl, by decide, by decide⟩
theorem tk_tok : StT Try.prog 49 (.agg #[.int .i64 0, .int .i64 0, .int .i64 0]) 3 := ⟨by kernel_rfl, by kernel_rfl, rfl⟩
theorem z_tok : (Try.prog.info? 49).map (·.zero) = some (some (.agg #[.int .i64 0, .int .i64 0, .int .i64 0])) := by kernel_rfl
theorem sz_tok : (Try.prog.info? 49).map (·.size) = some 3 := by kernel_rfl
theorem fd_tok0 : FdT Try.prog 49 0 0 := by unfold FdT; kernel_rfl
theorem fd_tok1 : FdT Try.prog 49 1 1 := by unfold FdT; kernel_rfl
theorem fd_tok2 : FdT Try.prog 49 2 2 := by unfold FdT; kernel_rfl
theorem st_ltok : SlT Try.prog 22 51 3 24 (.agg #[.int .i64 0, .int .i64 0, .int .i64 0]) := ⟨by kernel_rfl, by kernel_rfl, rfl, by decide, by decide⟩
theorem tk_ltok : StT Try.prog 51 (.agg #[.int .i64 0, .int .i64 0, .int .i64 0]) 3 := ⟨by kernel_rfl, by kernel_rfl, rfl⟩
theorem fd_ltok0 : FdT Try.prog 51 0 0 := by unfold FdT; kernel_rfl
theorem fd_ltok1 : FdT Try.prog 51 1 1 := by unfold FdT; kernel_rfl
theorem fd_ltok2 : FdT Try.prog 51 2 2 := by unfold FdT; kernel_rfl
end Go.Proofs.Ytmkobefandfegaa
