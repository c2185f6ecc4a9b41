/-
  Contracts: lists read from states; a law.
-/
import Derived.Test.YtjiildnfegechaaK7
namespace Go.Proofs.Ytjiildnfegechaa
set_option linter.unusedVariables false
set_option linter.unusedSimpArgs false
set_option linter.unnecessarySimpa false
open Go.RowKit

theorem statesDec_len {st : Int} {bs fs : List Int} {many : Int} : ((statesDec st bs fs many).getD []).length ≤ 40 ∧ allIn 0 7 ((statesDec st bs fs many).getD []) = true := by
  unfold statesDec
  by_cases h : decOk st bs fs many = true
  · rw [if_pos h]
    simp only [decOk, Bool.and_eq_true, inB_iff] at h
    obtain ⟨h1, h2, h3, h4⟩ := h
    cases hd : decS fs many.toNat st bs with
    | none => simp [allIn]
    | some out =>
      obtain ⟨_, g2, g3, _⟩ := enc_dec h3 ⟨h1.1, by omega⟩ h2 hd
      rw [Option.getD_some]
      exact ⟨by omega, g3⟩
  · rw [if_neg h]; simp [allIn]
theorem symF_step {fs : List Int} {x : Int} {s : Nat} (hs : s < 8) (h : startAt fs s + gi fs s ≤ x) : symF fs x (8 - s) s = symF fs x (8 - (s + 1)) (s + 1) := by
  rw [show 8 - s = (8 - (s + 1)) + 1 by omega]; simp only [symF]; rw [if_pos h]
theorem symF_stop {fs : List Int} {x : Int} {s : Nat} (hs : s < 8) (h : ¬ startAt fs s + gi fs s ≤ x) : symF fs x (8 - s) s = s := by
  rw [show 8 - s = (8 - (s + 1)) + 1 by omega]; simp only [symF]; rw [if_neg h]
theorem start8 {fs : List Int} (hf : freqsOk fs = true) : startAt fs 8 = 32 := by
  obtain ⟨h8, ha, hs⟩ := freqsOk_iff.1 hf
  unfold startAt; rw [List.take_of_length_le (by omega), hs]

theorem every_x {v : Value} {xs : List Int} {w0 : World} (hx : Ints w0 v xs) (lo hi : Int) :
    Calls Try.prog 58 #[v, .int .i64 lo, .int .i64 hi] w0 fun e w' => e = .returned (.bool (allIn lo hi xs)) ∧ w0 = w' := every_c hx lo hi
end Go.Proofs.Ytjiildnfegechaa
