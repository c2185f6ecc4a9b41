/-
  A law: the longest match at a place is the reference's.
-/
import Derived.Test.YtjbedonncjppfaaC4
namespace Go.Proofs.Ytjbedonncjppfaa
set_option linter.unusedVariables false
set_option linter.unusedSimpArgs false
set_option linter.unnecessarySimpa false
open Go.RowKit

theorem sMatchAt_c {v : Value} {xs : List Int} {w : World} (hx : Ints w v xs) {p : Int} (hI : I64 p) :
    Calls Try.prog 14 #[v, .int .i64 p] w fun e w' =>
      e = .returned (.tuple #[.agg (tcs (matchAt xs p)).toArray, .bool (matchOk xs p)]) ∧ Below w.heap.size w w' := by
  have hl := hx.1.2.1
  have S := Sep.refl w
  by_cases hok : listOk xs = true ∧ inB 0 (xs.length - 1) p = true
  · obtain ⟨h1, h2⟩ := hok
    have hp := inB_iff.1 h2
    have hfin : matchAt xs p = mbest xs p (min 16 p.toNat) := by simp [matchAt, placeOk, h1, h2]
    have hfin2 : matchOk xs p = decide (0 < (mbest xs p (min 16 p.toNat)).m) := by simp [matchOk, hfin]
    rw [hfin, hfin2]
    clear hfin hfin2
    go_enter Try.func14, Try.ntmps14
    go_wp2_with (first | (refine r_alloc rfl rfl z_tok S ?_; intro res w1 S1) | (go_at_call 19; refine (sListValid_c (Sep.ints S1 hx)).mono ?_; rintro _ w4 ⟨rfl, rfl⟩) | (go_at_call 39; refine (l6In_c _ _ _ _).mono ?_; rintro _ w4 ⟨rfl, rfl⟩) | refine r_len rfl rfl st_int rfl (by first | exact Ints.rd (by assumption) | exact Acc.ints (Sep.a0 (by assumption)) | exact Acc.ints (Sep.a1 (by assumption)) | exact Acc.ints (Sep.a2 (by assumption))) ?_ | (go_at_call 40; refine (l14Match_c (Sep.ints S1 hx) (by omega) (by omega)).mono ?_; rintro _ w2 ⟨rfl, hb⟩; have S2 := S1.ext hb) | (refine r_storeAgg rfl rfl sz_tok rfl rfl rfl rfl (by simp [tcs]) S2.a0 rfl ?_; intro w3 S3))
    exact bodyPost_ret (res_box_tmp rfl rfl tk_tok (Acc.all (Sep.a0 S3) (by simp [tcs])) rfl) rfl ⟨ret_agg_bool rfl, Sep.below S3⟩
  · have hfin : matchAt xs p = ⟨0, 0, 0⟩ := by
      have : placeOk xs p = false := by
        cases hb : placeOk xs p with
        | false => rfl
        | true => simp only [placeOk, Bool.and_eq_true] at hb; exact absurd hb hok
      simp [matchAt, this]
    have hfin2 : matchOk xs p = false := by simp [matchOk, hfin]
    rw [hfin, hfin2]
    clear hfin hfin2
    cases h1 : listOk xs with
    | false =>
      clear hok
      go_enter Try.func14, Try.ntmps14
      go_wp2_with (first | (refine r_alloc rfl rfl z_tok S ?_; intro res w1 S1) | (go_at_call 19; refine (sListValid_c (Sep.ints S1 hx)).mono ?_; rintro _ w4 ⟨rfl, rfl⟩) | (refine r_storeAgg rfl rfl sz_tok rfl rfl rfl rfl (by simp) S1.a0 rfl ?_; intro w3 S3))
      exact bodyPost_ret (res_box_tmp rfl rfl tk_tok (Acc.all (Sep.a0 S3) (by simp)) rfl) rfl ⟨ret_agg_bool (t := ⟨0, 0, 0⟩) rfl, Sep.below S3⟩
    | true =>
      have h2 : inB 0 (xs.length - 1) p = false := by
        cases hb : inB 0 (xs.length - 1) p with
        | false => rfl
        | true => exact absurd ⟨h1, hb⟩ hok
      clear hok
      go_enter Try.func14, Try.ntmps14
      go_wp2_with (first | (refine r_alloc rfl rfl z_tok S ?_; intro res w1 S1) | (go_at_call 19; refine (sListValid_c (Sep.ints S1 hx)).mono ?_; rintro _ w4 ⟨rfl, rfl⟩) | (go_at_call 39; refine (l6In_c _ _ _ _).mono ?_; rintro _ w4 ⟨rfl, rfl⟩) | refine r_len rfl rfl st_int rfl (by first | exact Ints.rd (by assumption) | exact Acc.ints (Sep.a0 (by assumption)) | exact Acc.ints (Sep.a1 (by assumption)) | exact Acc.ints (Sep.a2 (by assumption))) ?_ | (refine r_storeAgg rfl rfl sz_tok rfl rfl rfl rfl (by simp) S1.a0 rfl ?_; intro w3 S3))
      exact bodyPost_ret (res_box_tmp rfl rfl tk_tok (Acc.all (Sep.a0 S3) (by simp)) rfl) rfl ⟨ret_agg_bool (t := ⟨0, 0, 0⟩) rfl, Sep.below S3⟩
end Go.Proofs.Ytjbedonncjppfaa
