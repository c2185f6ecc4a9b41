/-
  The plain functions: what counts cost with lengths of codes.
-/
import Derived.Test.YtjbedonncjppfaaPure
namespace Go.Proofs.Ytjbedonncjppfaa
set_option linter.unusedVariables false
set_option linter.unusedSimpArgs false
set_option linter.unnecessarySimpa false

/-- The cost of the first k symbols, nothing if one that is used has no code. -/
def lcost (xs ys : List Int) : Nat → Option Int
  | 0 => some 0
  | k + 1 => (lcost xs ys k).bind fun n => if 0 < gi xs (k : Int) ∧ gi ys (k : Int) = 0 then none else some (n + gi xs (k : Int) * gi ys (k : Int))

def lengthsCost (xs ys : List Int) : Int := if countsOk xs = true ∧ lengthsValid ys = true then (lcost xs ys xs.length).getD (-1) else -1

theorem mul_bd {c l : Int} (hc : 0 ≤ c ∧ c ≤ 999) (hl : 0 ≤ l ∧ l ≤ 8) : 0 ≤ c * l ∧ c * l ≤ 7992 := by
  refine ⟨Int.mul_nonneg hc.1 hl.1, ?_⟩
  have h1 : c * l ≤ 999 * l := Int.mul_le_mul_of_nonneg_right hc.2 hl.1
  omega

theorem lcost_none {xs ys : List Int} {k : Nat} (h : lcost xs ys k = none) : ∀ j, lcost xs ys (k + j) = none
  | 0 => h
  | j + 1 => by
    have := lcost_none h j
    show (lcost xs ys (k + j)).bind _ = none
    rw [this]; rfl

theorem lcost_step {xs ys : List Int} {k : Nat} {n : Int} (h : lcost xs ys k = some n) (hn : ¬ (0 < gi xs (k : Int) ∧ gi ys (k : Int) = 0)) : lcost xs ys (k + 1) = some (n + gi xs (k : Int) * gi ys (k : Int)) := by
  show (lcost xs ys k).bind _ = _
  rw [h, Option.bind_some, if_neg hn]

theorem lcost_stop {xs ys : List Int} {k : Nat} {n : Int} (h : lcost xs ys k = some n) (hn : 0 < gi xs (k : Int) ∧ gi ys (k : Int) = 0) (hk : k < xs.length) : lcost xs ys xs.length = none := by
  have h1 : lcost xs ys (k + 1) = none := by
    show (lcost xs ys k).bind _ = _
    rw [h, Option.bind_some, if_pos hn]
  have := lcost_none h1 (xs.length - (k + 1))
  rwa [show k + 1 + (xs.length - (k + 1)) = xs.length by omega] at this

end Go.Proofs.Ytjbedonncjppfaa
