/-
  Contracts: states of lists; a law.
-/
import Derived.Test.YtjiildnfegechaaK2
import Derived.Test.YtjiildnfegechaaC2
import Derived.Test.YtjiildnfegechaaPureS
import Derived.Test.YtjiildnfegechaaWalk3
namespace Go.Proofs.Ytjiildnfegechaa
set_option linter.unusedVariables false
set_option linter.unusedSimpArgs false
set_option linter.unnecessarySimpa false
open Go.RowKit

theorem startsOf_len (fs : List Int) : (startsOf fs).length = fs.length := tab_length _ _
theorem startsOf_gi {fs : List Int} {i : Nat} (h : i < fs.length) : gi (startsOf fs) (i : Int) = startAt fs i := tab_gi h
theorem encBytes_good (xs fs : List Int) : allIn 0 255 (encBytes xs fs) = true ∧ (encBytes xs fs).length ≤ 40 := by
  unfold encBytes
  by_cases h : encOk xs fs = true
  · rw [if_pos h]
    simp only [encOk, Bool.and_eq_true] at h
    obtain ⟨h1, h2, h3⟩ := h
    obtain ⟨l, a⟩ := listOk_iff.1 h1
    have := encS_bytes h2 a h3
    exact ⟨this.1, by omega⟩
  · rw [if_neg h]; exact ⟨rfl, by simp⟩
theorem allUsed_drop {fs xs : List Int} {k : Nat} (h : k < xs.length) : allUsed fs (xs.drop k) = (!(gi fs (gi xs k) == 0) && allUsed fs (xs.drop (k + 1))) := by
  rw [drop_gi h]; simp [allUsed]
theorem allIn_drop {lo hi : Int} {xs : List Int} (h : allIn lo hi xs = true) (k : Nat) : allIn lo hi (xs.drop k) = true :=
  List.all_eq_true.2 fun x hx => List.all_eq_true.1 h x (List.mem_of_mem_drop hx)
theorem allUsed_no {fs xs : List Int} {k : Nat} (h : k < xs.length) (hz : gi fs (gi xs k) = 0) : allUsed fs xs = false := by
  cases hb : allUsed fs xs with
  | false => rfl
  | true =>
    have := List.all_eq_true.1 hb xs[k] (List.getElem_mem h)
    rw [gi_nat h] at hz
    simp [hz] at this

end Go.Proofs.Ytjiildnfegechaa
