/-
  Contracts: codes of given lengths; a law.
-/
import Derived.Test.YtodlgfihpabdfaaK2
import Derived.Test.YtodlgfihpabdfaaC2
import Derived.Test.YtodlgfihpabdfaaPureC
import Derived.Test.YtodlgfihpabdfaaWalk2
namespace Go.Proofs.Ytodlgfihpabdfaa
set_option linter.unusedVariables false
set_option linter.unusedSimpArgs false
set_option linter.unnecessarySimpa false
open Go.RowKit

theorem valid_parts {ls : List Int} (h : lengthsValid ls = true) : ls.length = 8 ∧ allIn 0 8 ls = true := by
  have hlo : lengthsOk ls = true := by
    cases h' : lengthsOk ls with
    | true => rfl
    | false => simp [lengthsValid, kraftOf, h', inB] at h
  exact lengthsOk_iff.1 hlo
theorem codesOf_no {ls : List Int} (h : lengthsValid ls = false) : codesOf ls = [] := by simp [codesOf, h]
theorem codesOf_yes {ls : List Int} (h : lengthsValid ls = true) : codesOf ls = tab 8 (codeAt ls) := by simp [codesOf, h]
theorem codesOf_len (ls : List Int) : (codesOf ls).length ≤ 8 := by
  cases h : lengthsValid ls with
  | true => rw [codesOf_yes h, tab_length]; omega
  | false => rw [codesOf_no h]; simp
theorem codesOf_allI (ls : List Int) : AllI (codesOf ls) := by
  cases h : lengthsValid ls with
  | true =>
    rw [codesOf_yes h]
    intro x hx
    simp only [tab, List.mem_map, List.mem_range] at hx
    obtain ⟨i, hi, rfl⟩ := hx
    have := codeAt_bd (valid_parts h).2 i hi
    exact ⟨by omega, by omega⟩
  | false => rw [codesOf_no h]; intro x hx; cases hx

end Go.Proofs.Ytodlgfihpabdfaa
