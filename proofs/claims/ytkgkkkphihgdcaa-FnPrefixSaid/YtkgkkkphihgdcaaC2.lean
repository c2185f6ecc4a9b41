/-
  Contracts and laws: lengths and frequencies that are valid.
-/
import Derived.Test.YtkgkkkphihgdcaaC1
namespace Go.Proofs.Ytkgkkkphihgdcaa
set_option linter.unusedVariables false
set_option linter.unusedSimpArgs false
set_option linter.unnecessarySimpa false
open Go.RowKit

theorem sLengthsValid_c {v : Value} {xs : List Int} {w : World} (hx : Ints w v xs) :
    Calls Try.prog 19 #[v] w fun e w' => e = .returned (.bool (lengthsValid xs)) ∧ w = w' := by
  go_enter Try.func19, Try.ntmps19
  go_wp2_with (first | (go_at_call 43; refine (sLengthsKraft_c hx).mono ?_; rintro e w' ⟨rfl, rfl⟩) | (go_at_call 44; refine (l1Power_c (by omega) (by omega)).mono ?_; rintro e w' ⟨rfl, rfl⟩) | (go_at_call 38; refine (l6In_c _ _ _ _).mono ?_; rintro e w' ⟨rfl, rfl⟩))
  go_ret
  exact ⟨rfl, rfl⟩
theorem LengthsValid_c {v : Value} {xs : List Int} {w : World} (hx : Ints w v xs) :
    Calls Try.prog 18 #[v] w fun e w' => e = .returned (.bool (lengthsValid xs)) ∧ w = w' := by
  by_cases hz : 0 < kraftOf xs
  · go_enter Try.func18, Try.ntmps18
    go_wp2_with (first | (go_at_call 20; refine (LengthsKraft_c hx).mono ?_; rintro e w' ⟨rfl, rfl⟩))
    go_ret
    exact ⟨ret_bool (by simp [lengthsValid, inB, show (1 : Int) ≤ kraftOf xs by omega]), rfl⟩
  · have h2 : decide (0 < kraftOf xs) = false := by simpa using hz
    go_enter Try.func18, Try.ntmps18
    go_wp2_with (first | (go_at_call 20; refine (LengthsKraft_c hx).mono ?_; rintro e w' ⟨rfl, rfl⟩))
    go_ret
    exact ⟨ret_bool (by simp only [lengthsValid, inB, show decide ((1 : Int) ≤ kraftOf xs) = false from decide_eq_false (by omega)]; rfl), rfl⟩
end Go.Proofs.Ytkgkkkphihgdcaa
