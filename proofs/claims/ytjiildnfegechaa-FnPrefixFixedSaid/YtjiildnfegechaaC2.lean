/-
  Contracts and laws: lengths and frequencies that are valid.
-/
import Derived.Test.YtjiildnfegechaaC1
namespace Go.Proofs.Ytjiildnfegechaa
set_option linter.unusedVariables false
set_option linter.unusedSimpArgs false
set_option linter.unnecessarySimpa false
open Go.RowKit

theorem sLengthsValid_c {v : Value} {xs : List Int} {w : World} (hx : Ints w v xs) :
    Calls Try.prog 47 #[v] w fun e w' => e = .returned (.bool (lengthsValid xs)) ∧ w = w' := by
  go_enter Try.func47, Try.ntmps47
  go_wp2_with (first | (go_at_call 59; refine (sLengthsKraft_c hx).mono ?_; rintro e w' ⟨rfl, rfl⟩) | (go_at_call 60; refine (l1Power_c (by omega) (by omega)).mono ?_; rintro e w' ⟨rfl, rfl⟩) | (go_at_call 57; refine (l6In_c _ _ _ _).mono ?_; rintro e w' ⟨rfl, rfl⟩))
  go_ret
  exact ⟨rfl, rfl⟩
theorem LengthsValid_c {v : Value} {xs : List Int} {w : World} (hx : Ints w v xs) :
    Calls Try.prog 23 #[v] w fun e w' => e = .returned (.bool (lengthsValid xs)) ∧ w = w' := by
  by_cases hz : 0 < kraftOf xs
  · go_enter Try.func23, Try.ntmps23
    go_wp2_with (first | (go_at_call 22; refine (LengthsKraft_c hx).mono ?_; rintro e w' ⟨rfl, rfl⟩))
    go_ret
    exact ⟨ret_bool (by simp [lengthsValid, inB, show (1 : Int) ≤ kraftOf xs by omega]), rfl⟩
  · have h2 : decide (0 < kraftOf xs) = false := by simpa using hz
    go_enter Try.func23, Try.ntmps23
    go_wp2_with (first | (go_at_call 22; refine (LengthsKraft_c hx).mono ?_; rintro e w' ⟨rfl, rfl⟩))
    go_ret
    exact ⟨ret_bool (by simp only [lengthsValid, inB, show decide ((1 : Int) ≤ kraftOf xs) = false from decide_eq_false (by omega)]; rfl), rfl⟩
end Go.Proofs.Ytjiildnfegechaa
