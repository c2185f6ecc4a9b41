/-
  Contracts: marks laid into lists of the call's own, and found again; what tokens cost and how long they are.
-/
import Derived.Test.YtkgkkkphihgdcaaC10
namespace Go.Proofs.Ytkgkkkphihgdcaa
set_option linter.unusedVariables false
set_option linter.unusedSimpArgs false
set_option linter.unnecessarySimpa false
open Go.RowKit

def marks (n : Nat) (k : Int) : List Int := (List.range n).map fun i : Nat => k + (i : Int)
theorem marks_length (n : Nat) (k : Int) : (marks n k).length = n := by simp [marks]
theorem marks_at {n i : Nat} {k : Int} (h : i < n) : gi (marks n k) (i : Int) = k + i := by simp [gi, marks, List.getD, h]
theorem marks_step {xs : List Int} {j : Nat} {k : Int} (h : j < xs.length) : (marks j k ++ xs.drop j).set j (k + j) = marks (j + 1) k ++ xs.drop (j + 1) := by
  rw [List.set_append_right _ _ (by simp [marks_length]), marks_length, Nat.sub_self, List.drop_eq_getElem_cons h, List.set_cons_zero]
  simp [marks, List.range_succ]
theorem allI_marks (n : Nat) (k : Int) (h0 : 0 ≤ k) (h1 : k ≤ 1099511627776) (hn : n ≤ 1099511627776) : AllI (marks n k) := fun x hx => by
  simp only [marks, List.mem_map, List.mem_range] at hx
  obtain ⟨i, hi, rfl⟩ := hx
  exact ⟨by omega, by omega⟩
def mtoks (n : Nat) (k : Int) : List Tok := (List.range n).map fun i : Nat => ⟨k + 3 * (i : Int), k + 3 * (i : Int) + 1, k + 3 * (i : Int) + 2⟩
theorem mtoks_length (n : Nat) (k : Int) : (mtoks n k).length = n := by simp [mtoks]
theorem mtoks_at {n i : Nat} {k : Int} (h : i < n) : gt (mtoks n k) (i : Int) = ⟨k + 3 * (i : Int), k + 3 * (i : Int) + 1, k + 3 * (i : Int) + 2⟩ := by simp [gt, mtoks, List.getD, h]
theorem mtoks_step {ts : List Tok} {j : Nat} {k : Int} (h : j < ts.length) : (mtoks j k ++ ts.drop j).set j ⟨k + 3 * (j : Int), k + 3 * (j : Int) + 1, k + 3 * (j : Int) + 2⟩ = mtoks (j + 1) k ++ ts.drop (j + 1) := by
  rw [List.set_append_right _ _ (by simp [mtoks_length]), mtoks_length, Nat.sub_self, List.drop_eq_getElem_cons h, List.set_cons_zero]
  simp [mtoks, List.range_succ]

theorem allT_mtoks (n : Nat) (k : Int) (h0 : 0 ≤ k) (h1 : k ≤ 1099511627776) (hn : n ≤ 1099511627776) : AllT (mtoks n k) := fun x hx => by
  simp only [mtoks, List.mem_map, List.mem_range] at hx
  obtain ⟨i, hi, rfl⟩ := hx
  exact ⟨⟨by dsimp only; omega, by dsimp only; omega⟩, ⟨by dsimp only; omega, by dsimp only; omega⟩, ⟨by dsimp only; omega, by dsimp only; omega⟩⟩

end Go.Proofs.Ytkgkkkphihgdcaa
