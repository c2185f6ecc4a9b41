/-
  Greedy tokens are not better.
-/
import Derived.Test.YtjbedonncjppfaaLT1
import Derived.Test.YtjbedonncjppfaaK4
import Derived.Test.YtjbedonncjppfaaK5
import Derived.Test.YtjbedonncjppfaaWalk5
namespace Go.Proofs.Ytjbedonncjppfaa
set_option linter.unusedVariables false
set_option linter.unusedSimpArgs false
set_option linter.unnecessarySimpa false
open Go.RowKit

theorem syms_parse {xs : List Int} : ∀ (k p : Nat), p + k = xs.length → ∃ ts, Parse xs p ts ∧ costL ts = 4 * k
  | 0, p, h => ⟨[], by simpa [Parse] using h, rfl⟩
  | k + 1, p, h => by
    obtain ⟨ts, h1, h2⟩ := syms_parse (xs := xs) k (p + 1) (by omega)
    refine ⟨⟨gi xs p, 0, 0⟩ :: ts, ⟨sym_step (by omega), h1⟩, ?_⟩
    show (4 : Int) + costL ts = 4 * ((k + 1 : Nat) : Int)
    omega
theorem least_syms {xs : List Int} (hx : listOk xs = true) : parseLeast xs ≤ 4 * (xs.length : Int) := by
  obtain ⟨ts, h1, h2⟩ := syms_parse (xs := xs) xs.length 0 (by omega)
  have := least_le h1
  rw [parseLeast_eq hx]
  omega
theorem least_greedy {xs : List Int} (hx : listOk xs = true) : parseLeast xs ≤ tokCost (greedy xs) := by
  have h1 := greedy_parse hx
  have h2 := parse0_exp hx h1
  rw [tokCost_eq _ h2.1, parseLeast_eq hx]
  exact least_le h1
end Go.Proofs.Ytjbedonncjppfaa
