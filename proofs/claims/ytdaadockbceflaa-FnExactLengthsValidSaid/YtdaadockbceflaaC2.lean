/-
  Contracts and laws: lengths and frequencies that are valid.
-/
import Derived.Test.YtdaadockbceflaaC1
namespace Go.Proofs.Ytdaadockbceflaa
set_option linter.unusedVariables false
set_option linter.unusedSimpArgs false
set_option linter.unnecessarySimpa false
open Go.RowKit

theorem sLengthsValid_c {v : Value} {xs : List Int} {w : World} (hx : Ints w v xs) :
    Calls Try.prog 15 #[v] w fun e w' => e = .returned (.bool (lengthsValid xs)) ∧ w = w' := by
  go_enter Try.func15, Try.ntmps15
  go_wp2_with (first | (go_at_call 13; refine (sLengthsKraft_c hx).mono ?_; rintro e w' ⟨rfl, rfl⟩) | (go_at_call 32; refine (l1Power_c (by omega) (by omega)).mono ?_; rintro e w' ⟨rfl, rfl⟩) | (go_at_call 31; refine (l6In_c _ _ _ _).mono ?_; rintro e w' ⟨rfl, rfl⟩))
  go_ret
  exact ⟨rfl, rfl⟩
theorem LengthsValid_c {v : Value} {xs : List Int} {w : World} (hx : Ints w v xs) :
    Calls Try.prog 16 #[v] w fun e w' => e = .returned (.bool (lengthsValid xs)) ∧ w = w' := by
  by_cases hz : 0 < kraftOf xs
  · go_enter Try.func16, Try.ntmps16
    go_wp2_with (first | (go_at_call 14; refine (LengthsKraft_c hx).mono ?_; rintro e w' ⟨rfl, rfl⟩))
    go_ret
    exact ⟨ret_bool (by simp [lengthsValid, inB, show (1 : Int) ≤ kraftOf xs by omega]), rfl⟩
  · have h2 : decide (0 < kraftOf xs) = false := by simpa using hz
    go_enter Try.func16, Try.ntmps16
    go_wp2_with (first | (go_at_call 14; refine (LengthsKraft_c hx).mono ?_; rintro e w' ⟨rfl, rfl⟩))
    go_ret
    exact ⟨ret_bool (by simp only [lengthsValid, inB, show decide ((1 : Int) ≤ kraftOf xs) = false from decide_eq_false (by omega)]; rfl), rfl⟩
theorem sFreqsValid_c {v : Value} {xs : List Int} {w : World} (hx : Ints w v xs) :
    Calls Try.prog 9 #[v] w fun e w' => e = .returned (.bool (freqsOk xs)) ∧ w = w' := by
  cases hc : countsOk xs with
  | true =>
    obtain ⟨h8, hall⟩ := countsOk_iff.1 hc
    have hle : xs.length ≤ 1000000 := by omega
    clear h8
    go_enter Try.func9, Try.ntmps9
    go_wp2_with (first | (go_at_call 27; refine (sCountsValid_c hx).mono ?_; rintro e w' ⟨rfl, rfl⟩) | (go_at_call 28; refine (l3Sum_c hx hall (by omega) (by omega) hle).mono ?_; rintro e w' ⟨rfl, rfl⟩))
    go_ret
    exact ⟨ret_bool (by simp only [freqsOk, hc, Bool.true_and]; rfl), rfl⟩
  | false =>
    go_enter Try.func9, Try.ntmps9
    go_wp2_with (first | (go_at_call 27; refine (sCountsValid_c hx).mono ?_; rintro e w' ⟨rfl, rfl⟩))
    go_ret
    exact ⟨ret_bool (by simp only [freqsOk, hc, Bool.false_and]), rfl⟩
theorem FreqsValid_c {v : Value} {xs : List Int} {w : World} (hx : Ints w v xs) :
    Calls Try.prog 11 #[v] w fun e w' => e = .returned (.bool (freqsOk xs)) ∧ w = w' := by
  cases hc : countsOk xs with
  | true =>
    obtain ⟨h8, hall⟩ := countsOk_iff.1 hc
    have hle : xs.length ≤ 1000000 := by omega
    clear h8
    go_enter Try.func11, Try.ntmps11
    go_wp2_with (first | (go_at_call 29; refine (CountsValid_c hx).mono ?_; rintro e w' ⟨rfl, rfl⟩) | (go_at_call 30; refine (total_c hx hall (by omega) (by omega) hle).mono ?_; rintro e w' ⟨rfl, rfl⟩))
    go_ret
    exact ⟨ret_bool (by simp only [freqsOk, hc, Bool.true_and]; rfl), rfl⟩
  | false =>
    go_enter Try.func11, Try.ntmps11
    go_wp2_with (first | (go_at_call 29; refine (CountsValid_c hx).mono ?_; rintro e w' ⟨rfl, rfl⟩))
    go_ret
    exact ⟨ret_bool (by simp only [freqsOk, hc, Bool.false_and]), rfl⟩
theorem FnExactFreqsValid_c {v : Value} {xs : List Int} {w : World} (hx : Ints w v xs) (hn : xs.length ≤ 1048576) :
    Calls Try.prog 3 #[v] w fun e w' => e = .returned (.bool true) ∧ Below w.heap.size w w' := by
  have hI := hx.2
  have hs := same_self xs
  have S := Sep.refl w
  go_enter Try.func3, Try.ntmps3
  go_wp2_with (first | refine r_len rfl rfl st_int rfl (by first | exact Ints.rd (by assumption) | exact Acc.ints (Sep.a0 (by assumption)) | exact Acc.ints (Sep.a1 (by assumption)) | exact Acc.ints (Sep.a2 (by assumption))) ?_ | (go_at_call 10; refine (toIntS_c (by first | assumption | exact Sep.ints (by assumption) (by assumption) | exact Sep.i0 (by assumption) (by assumption) | exact Sep.i1 (by assumption) (by assumption) | exact Sep.i2 (by assumption) (by assumption) | exact Sep.i3 (by assumption) (by assumption))).mono ?_; rintro _ w1 ⟨r, rfl, S1⟩; have S2 := Sep.cat1 (by assumption) S1; clear S1) | (go_at_call 12; refine (eqIntS_c (by first | assumption | exact Sep.ints (by assumption) (by assumption) | exact Sep.i0 (by assumption) (by assumption) | exact Sep.i1 (by assumption) (by assumption) | exact Sep.i2 (by assumption) (by assumption) | exact Sep.i3 (by assumption) (by assumption)) (by first | assumption | exact Sep.ints (by assumption) (by assumption) | exact Sep.i0 (by assumption) (by assumption) | exact Sep.i1 (by assumption) (by assumption) | exact Sep.i2 (by assumption) (by assumption) | exact Sep.i3 (by assumption) (by assumption))).mono ?_; rintro _ w1 ⟨rfl, hb⟩; have S2 := Sep.ext (by assumption) hb; clear hb) | (go_at_call 9; refine (sFreqsValid_c (by first | assumption | exact Sep.ints (by assumption) (by assumption) | exact Sep.i0 (by assumption) (by assumption) | exact Sep.i1 (by assumption) (by assumption) | exact Sep.i2 (by assumption) (by assumption) | exact Sep.i3 (by assumption) (by assumption))).mono ?_; rintro _ w1 ⟨rfl, rfl⟩) | (go_at_call 11; refine (FreqsValid_c (by first | assumption | exact Sep.ints (by assumption) (by assumption) | exact Sep.i0 (by assumption) (by assumption) | exact Sep.i1 (by assumption) (by assumption) | exact Sep.i2 (by assumption) (by assumption) | exact Sep.i3 (by assumption) (by assumption))).mono ?_; rintro _ w1 ⟨rfl, rfl⟩))
  go_ret
  exact ⟨rfl, Sep.below (by assumption)⟩
theorem FnExactLengthsKraft_c {v : Value} {xs : List Int} {w : World} (hx : Ints w v xs) (hn : xs.length ≤ 1048576) :
    Calls Try.prog 4 #[v] w fun e w' => e = .returned (.bool true) ∧ Below w.heap.size w w' := by
  have hI := hx.2
  have hs := same_self xs
  have S := Sep.refl w
  go_enter Try.func4, Try.ntmps4
  go_wp2_with (first | refine r_len rfl rfl st_int rfl (by first | exact Ints.rd (by assumption) | exact Acc.ints (Sep.a0 (by assumption)) | exact Acc.ints (Sep.a1 (by assumption)) | exact Acc.ints (Sep.a2 (by assumption))) ?_ | (go_at_call 10; refine (toIntS_c (by first | assumption | exact Sep.ints (by assumption) (by assumption) | exact Sep.i0 (by assumption) (by assumption) | exact Sep.i1 (by assumption) (by assumption) | exact Sep.i2 (by assumption) (by assumption) | exact Sep.i3 (by assumption) (by assumption))).mono ?_; rintro _ w1 ⟨r, rfl, S1⟩; have S2 := Sep.cat1 (by assumption) S1; clear S1) | (go_at_call 12; refine (eqIntS_c (by first | assumption | exact Sep.ints (by assumption) (by assumption) | exact Sep.i0 (by assumption) (by assumption) | exact Sep.i1 (by assumption) (by assumption) | exact Sep.i2 (by assumption) (by assumption) | exact Sep.i3 (by assumption) (by assumption)) (by first | assumption | exact Sep.ints (by assumption) (by assumption) | exact Sep.i0 (by assumption) (by assumption) | exact Sep.i1 (by assumption) (by assumption) | exact Sep.i2 (by assumption) (by assumption) | exact Sep.i3 (by assumption) (by assumption))).mono ?_; rintro _ w1 ⟨rfl, hb⟩; have S2 := Sep.ext (by assumption) hb; clear hb) | (go_at_call 13; refine (sLengthsKraft_c (by first | assumption | exact Sep.ints (by assumption) (by assumption) | exact Sep.i0 (by assumption) (by assumption) | exact Sep.i1 (by assumption) (by assumption) | exact Sep.i2 (by assumption) (by assumption) | exact Sep.i3 (by assumption) (by assumption))).mono ?_; rintro _ w1 ⟨rfl, rfl⟩) | (go_at_call 14; refine (LengthsKraft_c (by first | assumption | exact Sep.ints (by assumption) (by assumption) | exact Sep.i0 (by assumption) (by assumption) | exact Sep.i1 (by assumption) (by assumption) | exact Sep.i2 (by assumption) (by assumption) | exact Sep.i3 (by assumption) (by assumption))).mono ?_; rintro _ w1 ⟨rfl, rfl⟩))
  go_ret
  exact ⟨rfl, Sep.below (by assumption)⟩
theorem FnExactLengthsValid_c {v : Value} {xs : List Int} {w : World} (hx : Ints w v xs) (hn : xs.length ≤ 1048576) :
    Calls Try.prog 5 #[v] w fun e w' => e = .returned (.bool true) ∧ Below w.heap.size w w' := by
  have hI := hx.2
  have hs := same_self xs
  have S := Sep.refl w
  go_enter Try.func5, Try.ntmps5
  go_wp2_with (first | refine r_len rfl rfl st_int rfl (by first | exact Ints.rd (by assumption) | exact Acc.ints (Sep.a0 (by assumption)) | exact Acc.ints (Sep.a1 (by assumption)) | exact Acc.ints (Sep.a2 (by assumption))) ?_ | (go_at_call 10; refine (toIntS_c (by first | assumption | exact Sep.ints (by assumption) (by assumption) | exact Sep.i0 (by assumption) (by assumption) | exact Sep.i1 (by assumption) (by assumption) | exact Sep.i2 (by assumption) (by assumption) | exact Sep.i3 (by assumption) (by assumption))).mono ?_; rintro _ w1 ⟨r, rfl, S1⟩; have S2 := Sep.cat1 (by assumption) S1; clear S1) | (go_at_call 12; refine (eqIntS_c (by first | assumption | exact Sep.ints (by assumption) (by assumption) | exact Sep.i0 (by assumption) (by assumption) | exact Sep.i1 (by assumption) (by assumption) | exact Sep.i2 (by assumption) (by assumption) | exact Sep.i3 (by assumption) (by assumption)) (by first | assumption | exact Sep.ints (by assumption) (by assumption) | exact Sep.i0 (by assumption) (by assumption) | exact Sep.i1 (by assumption) (by assumption) | exact Sep.i2 (by assumption) (by assumption) | exact Sep.i3 (by assumption) (by assumption))).mono ?_; rintro _ w1 ⟨rfl, hb⟩; have S2 := Sep.ext (by assumption) hb; clear hb) | (go_at_call 15; refine (sLengthsValid_c (by first | assumption | exact Sep.ints (by assumption) (by assumption) | exact Sep.i0 (by assumption) (by assumption) | exact Sep.i1 (by assumption) (by assumption) | exact Sep.i2 (by assumption) (by assumption) | exact Sep.i3 (by assumption) (by assumption))).mono ?_; rintro _ w1 ⟨rfl, rfl⟩) | (go_at_call 16; refine (LengthsValid_c (by first | assumption | exact Sep.ints (by assumption) (by assumption) | exact Sep.i0 (by assumption) (by assumption) | exact Sep.i1 (by assumption) (by assumption) | exact Sep.i2 (by assumption) (by assumption) | exact Sep.i3 (by assumption) (by assumption))).mono ?_; rintro _ w1 ⟨rfl, rfl⟩))
  go_ret
  exact ⟨rfl, Sep.below (by assumption)⟩
end Go.Proofs.Ytdaadockbceflaa
