/-
  Contracts and laws: lengths and frequencies that are valid.
-/
import Derived.Test.YtodlgfihpabdfaaC1
namespace Go.Proofs.Ytodlgfihpabdfaa
set_option linter.unusedVariables false
set_option linter.unusedSimpArgs false
set_option linter.unnecessarySimpa false
open Go.RowKit

theorem sFreqsValid_c {v : Value} {xs : List Int} {w : World} (hx : Ints w v xs) :
    Calls Try.prog 21 #[v] w fun e w' => e = .returned (.bool (freqsOk xs)) ∧ w = w' := by
  cases hc : countsOk xs with
  | true =>
    obtain ⟨h8, hall⟩ := countsOk_iff.1 hc
    have hle : xs.length ≤ 1000000 := by omega
    clear h8
    go_enter Try.func21, Try.ntmps21
    go_wp2_with (first | (go_at_call 41; refine (sCountsValid_c hx).mono ?_; rintro e w' ⟨rfl, rfl⟩) | (go_at_call 42; refine (l3Sum_c hx hall (by omega) (by omega) hle).mono ?_; rintro e w' ⟨rfl, rfl⟩))
    go_ret
    exact ⟨ret_bool (by simp only [freqsOk, hc, Bool.true_and]; rfl), rfl⟩
  | false =>
    go_enter Try.func21, Try.ntmps21
    go_wp2_with (first | (go_at_call 41; refine (sCountsValid_c hx).mono ?_; rintro e w' ⟨rfl, rfl⟩))
    go_ret
    exact ⟨ret_bool (by simp only [freqsOk, hc, Bool.false_and]), rfl⟩
theorem FreqsValid_c {v : Value} {xs : List Int} {w : World} (hx : Ints w v xs) :
    Calls Try.prog 20 #[v] w fun e w' => e = .returned (.bool (freqsOk xs)) ∧ w = w' := by
  cases hc : countsOk xs with
  | true =>
    obtain ⟨h8, hall⟩ := countsOk_iff.1 hc
    have hle : xs.length ≤ 1000000 := by omega
    clear h8
    go_enter Try.func20, Try.ntmps20
    go_wp2_with (first | (go_at_call 22; refine (CountsValid_c hx).mono ?_; rintro e w' ⟨rfl, rfl⟩) | (go_at_call 40; refine (total_c hx hall (by omega) (by omega) hle).mono ?_; rintro e w' ⟨rfl, rfl⟩))
    go_ret
    exact ⟨ret_bool (by simp only [freqsOk, hc, Bool.true_and]; rfl), rfl⟩
  | false =>
    go_enter Try.func20, Try.ntmps20
    go_wp2_with (first | (go_at_call 22; refine (CountsValid_c hx).mono ?_; rintro e w' ⟨rfl, rfl⟩))
    go_ret
    exact ⟨ret_bool (by simp only [freqsOk, hc, Bool.false_and]), rfl⟩
end Go.Proofs.Ytodlgfihpabdfaa
