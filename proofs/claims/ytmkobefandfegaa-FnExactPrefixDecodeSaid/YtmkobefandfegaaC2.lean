/-
  Contracts and laws: lengths and frequencies that are valid.
-/
import Derived.Test.YtmkobefandfegaaC1
namespace Go.Proofs.Ytmkobefandfegaa
set_option linter.unusedVariables false
set_option linter.unusedSimpArgs false
set_option linter.unnecessarySimpa false
open Go.RowKit

theorem sLengthsValid_c {v : Value} {xs : List Int} {w : World} (hx : Ints w v xs) :
    Calls Try.prog 54 #[v] w fun e w' => e = .returned (.bool (lengthsValid xs)) ∧ w = w' := by
  go_enter Try.func54, Try.ntmps54
  go_wp2_with (first | (go_at_call 92; refine (sLengthsKraft_c hx).mono ?_; rintro e w' ⟨rfl, rfl⟩) | (go_at_call 93; refine (l1Power_c (by omega) (by omega)).mono ?_; rintro e w' ⟨rfl, rfl⟩) | (go_at_call 77; refine (l6In_c _ _ _ _).mono ?_; rintro e w' ⟨rfl, rfl⟩))
  go_ret
  exact ⟨rfl, rfl⟩
theorem LengthsValid_c {v : Value} {xs : List Int} {w : World} (hx : Ints w v xs) :
    Calls Try.prog 55 #[v] w fun e w' => e = .returned (.bool (lengthsValid xs)) ∧ w = w' := by
  by_cases hz : 0 < kraftOf xs
  · go_enter Try.func55, Try.ntmps55
    go_wp2_with (first | (go_at_call 94; refine (LengthsKraft_c hx).mono ?_; rintro e w' ⟨rfl, rfl⟩))
    go_ret
    exact ⟨ret_bool (by simp [lengthsValid, inB, show (1 : Int) ≤ kraftOf xs by omega]), rfl⟩
  · have h2 : decide (0 < kraftOf xs) = false := by simpa using hz
    go_enter Try.func55, Try.ntmps55
    go_wp2_with (first | (go_at_call 94; refine (LengthsKraft_c hx).mono ?_; rintro e w' ⟨rfl, rfl⟩))
    go_ret
    exact ⟨ret_bool (by simp only [lengthsValid, inB, show decide ((1 : Int) ≤ kraftOf xs) = false from decide_eq_false (by omega)]; rfl), rfl⟩
theorem sFreqsValid_c {v : Value} {xs : List Int} {w : World} (hx : Ints w v xs) :
    Calls Try.prog 73 #[v] w fun e w' => e = .returned (.bool (freqsOk xs)) ∧ w = w' := by
  cases hc : countsOk xs with
  | true =>
    obtain ⟨h8, hall⟩ := countsOk_iff.1 hc
    have hle : xs.length ≤ 1000000 := by omega
    clear h8
    go_enter Try.func73, Try.ntmps73
    go_wp2_with (first | (go_at_call 56; refine (sCountsValid_c hx).mono ?_; rintro e w' ⟨rfl, rfl⟩) | (go_at_call 57; refine (l3Sum_c hx hall (by omega) (by omega) hle).mono ?_; rintro e w' ⟨rfl, rfl⟩))
    go_ret
    exact ⟨ret_bool (by simp only [freqsOk, hc, Bool.true_and]; rfl), rfl⟩
  | false =>
    go_enter Try.func73, Try.ntmps73
    go_wp2_with (first | (go_at_call 56; refine (sCountsValid_c hx).mono ?_; rintro e w' ⟨rfl, rfl⟩))
    go_ret
    exact ⟨ret_bool (by simp only [freqsOk, hc, Bool.false_and]), rfl⟩
theorem FreqsValid_c {v : Value} {xs : List Int} {w : World} (hx : Ints w v xs) :
    Calls Try.prog 75 #[v] w fun e w' => e = .returned (.bool (freqsOk xs)) ∧ w = w' := by
  cases hc : countsOk xs with
  | true =>
    obtain ⟨h8, hall⟩ := countsOk_iff.1 hc
    have hle : xs.length ≤ 1000000 := by omega
    clear h8
    go_enter Try.func75, Try.ntmps75
    go_wp2_with (first | (go_at_call 62; refine (CountsValid_c hx).mono ?_; rintro e w' ⟨rfl, rfl⟩) | (go_at_call 63; refine (total_c hx hall (by omega) (by omega) hle).mono ?_; rintro e w' ⟨rfl, rfl⟩))
    go_ret
    exact ⟨ret_bool (by simp only [freqsOk, hc, Bool.true_and]; rfl), rfl⟩
  | false =>
    go_enter Try.func75, Try.ntmps75
    go_wp2_with (first | (go_at_call 62; refine (CountsValid_c hx).mono ?_; rintro e w' ⟨rfl, rfl⟩))
    go_ret
    exact ⟨ret_bool (by simp only [freqsOk, hc, Bool.false_and]), rfl⟩
end Go.Proofs.Ytmkobefandfegaa
