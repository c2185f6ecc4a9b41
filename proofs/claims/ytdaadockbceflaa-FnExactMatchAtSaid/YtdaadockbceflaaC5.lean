/-
  A law: the longest match at a place is the reference's.
-/
import Derived.Test.YtdaadockbceflaaC4
namespace Go.Proofs.Ytdaadockbceflaa
set_option linter.unusedVariables false
set_option linter.unusedSimpArgs false
set_option linter.unnecessarySimpa false
open Go.RowKit

theorem sMatchAt_c {v : Value} {xs : List Int} {w : World} (hx : Ints w v xs) {p : Int} (hI : I64 p) :
    Calls Try.prog 17 #[v, .int .i64 p] w fun e w' =>
      e = .returned (.tuple #[.agg (tcs (matchAt xs p)).toArray, .bool (matchOk xs p)]) ∧ Below w.heap.size w w' := by
  have hl := hx.1.2.1
  have S := Sep.refl w
  by_cases hok : listOk xs = true ∧ inB 0 (xs.length - 1) p = true
  · obtain ⟨h1, h2⟩ := hok
    have hp := inB_iff.1 h2
    have hfin : matchAt xs p = mbest xs p (min 16 p.toNat) := by simp [matchAt, placeOk, h1, h2]
    have hfin2 : matchOk xs p = decide (0 < (mbest xs p (min 16 p.toNat)).m) := by simp [matchOk, hfin]
    rw [hfin, hfin2]
    clear hfin hfin2
    go_enter Try.func17, Try.ntmps17
    go_wp2_with (first | (refine r_alloc rfl rfl z_tok S ?_; intro res w1 S1) | (go_at_call 34; refine (sListValid_c (Sep.ints S1 hx)).mono ?_; rintro _ w4 ⟨rfl, rfl⟩) | (go_at_call 31; refine (l6In_c _ _ _ _).mono ?_; rintro _ w4 ⟨rfl, rfl⟩) | refine r_len rfl rfl st_int rfl (by first | exact Ints.rd (by assumption) | exact Acc.ints (Sep.a0 (by assumption)) | exact Acc.ints (Sep.a1 (by assumption)) | exact Acc.ints (Sep.a2 (by assumption))) ?_ | (go_at_call 35; refine (l14Match_c (Sep.ints S1 hx) (by omega) (by omega)).mono ?_; rintro _ w2 ⟨rfl, hb⟩; have S2 := S1.ext hb) | (refine r_storeAgg rfl rfl sz_tok rfl rfl rfl rfl (by simp [tcs]) S2.a0 rfl ?_; intro w3 S3))
    exact bodyPost_ret (res_box_tmp rfl rfl tk_tok (Acc.all (Sep.a0 S3) (by simp [tcs])) rfl) rfl ⟨ret_agg_bool rfl, Sep.below S3⟩
  · have hfin : matchAt xs p = ⟨0, 0, 0⟩ := by
      have : placeOk xs p = false := by
        cases hb : placeOk xs p with
        | false => rfl
        | true => simp only [placeOk, Bool.and_eq_true] at hb; exact absurd hb hok
      simp [matchAt, this]
    have hfin2 : matchOk xs p = false := by simp [matchOk, hfin]
    rw [hfin, hfin2]
    clear hfin hfin2
    cases h1 : listOk xs with
    | false =>
      clear hok
      go_enter Try.func17, Try.ntmps17
      go_wp2_with (first | (refine r_alloc rfl rfl z_tok S ?_; intro res w1 S1) | (go_at_call 34; refine (sListValid_c (Sep.ints S1 hx)).mono ?_; rintro _ w4 ⟨rfl, rfl⟩) | (refine r_storeAgg rfl rfl sz_tok rfl rfl rfl rfl (by simp) S1.a0 rfl ?_; intro w3 S3))
      exact bodyPost_ret (res_box_tmp rfl rfl tk_tok (Acc.all (Sep.a0 S3) (by simp)) rfl) rfl ⟨ret_agg_bool (t := ⟨0, 0, 0⟩) rfl, Sep.below S3⟩
    | true =>
      have h2 : inB 0 (xs.length - 1) p = false := by
        cases hb : inB 0 (xs.length - 1) p with
        | false => rfl
        | true => exact absurd ⟨h1, hb⟩ hok
      clear hok
      go_enter Try.func17, Try.ntmps17
      go_wp2_with (first | (refine r_alloc rfl rfl z_tok S ?_; intro res w1 S1) | (go_at_call 34; refine (sListValid_c (Sep.ints S1 hx)).mono ?_; rintro _ w4 ⟨rfl, rfl⟩) | (go_at_call 31; refine (l6In_c _ _ _ _).mono ?_; rintro _ w4 ⟨rfl, rfl⟩) | refine r_len rfl rfl st_int rfl (by first | exact Ints.rd (by assumption) | exact Acc.ints (Sep.a0 (by assumption)) | exact Acc.ints (Sep.a1 (by assumption)) | exact Acc.ints (Sep.a2 (by assumption))) ?_ | (refine r_storeAgg rfl rfl sz_tok rfl rfl rfl rfl (by simp) S1.a0 rfl ?_; intro w3 S3))
      exact bodyPost_ret (res_box_tmp rfl rfl tk_tok (Acc.all (Sep.a0 S3) (by simp)) rfl) rfl ⟨ret_agg_bool (t := ⟨0, 0, 0⟩) rfl, Sep.below S3⟩
theorem eqToken_c {t u : Tok} {w : World} :
    Calls Try.prog 19 #[.agg (tcs t).toArray, .agg (tcs u).toArray] w fun e w' => e = .returned (.bool (decide (t = u))) ∧ Below w.heap.size w w' := by
  have S := Sep.refl w
  by_cases hs : t.s = u.s
  · by_cases hb : t.b = u.b
    · by_cases hm : t.m = u.m
      · have e : t = u := by cases t; cases u; simp_all
        subst e
        clear hs hb hm
        unfold tcs
        go_enter Try.func19, Try.ntmps19
        go_wp2_with (first | (refine r_boxAgg rfl rfl rfl S ?_; intro p1 w1 S1) | (refine r_boxAgg rfl rfl rfl S1 ?_; intro p2 w2 S2) | (refine r_field rfl rfl (by first | exact fd_tok0 | exact fd_tok1 | exact fd_tok2) rfl (by first | exact Acc.all S2.a0 (by simp) | exact Acc.all S2.a1 (by simp)) ?_) | (refine r_load1 rfl rfl t_int rfl (by first | exact Acc.adr1 S2.a0 _ (by rfl) | exact Acc.adr1 S2.a1 _ (by rfl)) rfl ?_))
        go_ret
        exact ⟨ret_bool (by simp), S2.below⟩
      · have e : ¬ t = u := fun e => hm (by rw [e])
        have h1 : (t.s != u.s) = false := by simpa using hs
        have h2 : (t.b != u.b) = false := by simpa using hb
        have h3 : (t.m != u.m) = true := by simpa using hm
        have E := Lib.hid e
        clear hs hb hm e
        unfold tcs
        go_enter Try.func19, Try.ntmps19
        go_wp2_with (first | (refine r_boxAgg rfl rfl rfl S ?_; intro p1 w1 S1) | (refine r_boxAgg rfl rfl rfl S1 ?_; intro p2 w2 S2) | (refine r_field rfl rfl (by first | exact fd_tok0 | exact fd_tok1 | exact fd_tok2) rfl (by first | exact Acc.all S2.a0 (by simp) | exact Acc.all S2.a1 (by simp)) ?_) | (refine r_load1 rfl rfl t_int rfl (by first | exact Acc.adr1 S2.a0 _ (by rfl) | exact Acc.adr1 S2.a1 _ (by rfl)) rfl ?_))
        go_ret
        exact ⟨ret_bool (decide_eq_false E.out).symm, S2.below⟩
    · have e : ¬ t = u := fun e => hb (by rw [e])
      have h1 : (t.s != u.s) = false := by simpa using hs
      have h2 : (t.b != u.b) = true := by simpa using hb
      have E := Lib.hid e
      clear hs hb e
      unfold tcs
      go_enter Try.func19, Try.ntmps19
      go_wp2_with (first | (refine r_boxAgg rfl rfl rfl S ?_; intro p1 w1 S1) | (refine r_boxAgg rfl rfl rfl S1 ?_; intro p2 w2 S2) | (refine r_field rfl rfl (by first | exact fd_tok0 | exact fd_tok1 | exact fd_tok2) rfl (by first | exact Acc.all S2.a0 (by simp) | exact Acc.all S2.a1 (by simp)) ?_) | (refine r_load1 rfl rfl t_int rfl (by first | exact Acc.adr1 S2.a0 _ (by rfl) | exact Acc.adr1 S2.a1 _ (by rfl)) rfl ?_))
      go_ret
      exact ⟨ret_bool (decide_eq_false E.out).symm, S2.below⟩
  · have e : ¬ t = u := fun e => hs (by rw [e])
    have h1 : (t.s != u.s) = true := by simpa using hs
    have E := Lib.hid e
    clear hs e
    unfold tcs
    go_enter Try.func19, Try.ntmps19
    go_wp2_with (first | (refine r_boxAgg rfl rfl rfl S ?_; intro p1 w1 S1) | (refine r_boxAgg rfl rfl rfl S1 ?_; intro p2 w2 S2) | (refine r_field rfl rfl (by first | exact fd_tok0 | exact fd_tok1 | exact fd_tok2) rfl (by first | exact Acc.all S2.a0 (by simp) | exact Acc.all S2.a1 (by simp)) ?_) | (refine r_load1 rfl rfl t_int rfl (by first | exact Acc.adr1 S2.a0 _ (by rfl) | exact Acc.adr1 S2.a1 _ (by rfl)) rfl ?_))
    go_ret
    exact ⟨ret_bool (decide_eq_false E.out).symm, S2.below⟩
theorem FnExactMatchAt_c {v : Value} {xs : List Int} {w : World} {p : Int} (hx : Ints w v xs) (hn : xs.length ≤ 1048576) (hp : I64 p) :
    Calls Try.prog 6 #[v, .int .i64 p] w fun e w' => e = .returned (.bool true) ∧ Below w.heap.size w w' := by
  have hI := hx.2
  have hs := same_self xs
  have S := Sep.refl w
  have hd : decide (matchAt xs p = matchAt xs p) = true := decide_eq_true rfl
  go_enter Try.func6, Try.ntmps6
  go_wp2_with (first | refine r_len rfl rfl st_int rfl (by first | exact Ints.rd (by assumption) | exact Acc.ints (Sep.a0 (by assumption)) | exact Acc.ints (Sep.a1 (by assumption)) | exact Acc.ints (Sep.a2 (by assumption))) ?_ | (go_at_call 10; refine (toIntS_c (by first | assumption | exact Sep.ints (by assumption) (by assumption) | exact Sep.i0 (by assumption) (by assumption) | exact Sep.i1 (by assumption) (by assumption) | exact Sep.i2 (by assumption) (by assumption) | exact Sep.i3 (by assumption) (by assumption))).mono ?_; rintro _ w1 ⟨r, rfl, S1⟩; have S2 := Sep.cat1 (by assumption) S1; clear S1) | (go_at_call 12; refine (eqIntS_c (by first | assumption | exact Sep.ints (by assumption) (by assumption) | exact Sep.i0 (by assumption) (by assumption) | exact Sep.i1 (by assumption) (by assumption) | exact Sep.i2 (by assumption) (by assumption) | exact Sep.i3 (by assumption) (by assumption)) (by first | assumption | exact Sep.ints (by assumption) (by assumption) | exact Sep.i0 (by assumption) (by assumption) | exact Sep.i1 (by assumption) (by assumption) | exact Sep.i2 (by assumption) (by assumption) | exact Sep.i3 (by assumption) (by assumption))).mono ?_; rintro _ w1 ⟨rfl, hb⟩; have S2 := Sep.ext (by assumption) hb; clear hb) | (refine r_alloc rfl rfl z_tok (by assumption) ?_; intro p w1 S2) | (refine r_storeAgg rfl rfl sz_tok rfl rfl rfl rfl (by exact Nat.succ_pos _) (by first | exact Sep.a0 (by assumption) | exact Sep.a1 (by assumption) | exact Sep.a2 (by assumption) | exact Sep.a3 (by assumption)) (by rfl) ?_; intro w1 S2) | (refine r_loadAgg rfl rfl tk_tok rfl (Acc.all (by first | exact Sep.a0 (by assumption) | exact Sep.a1 (by assumption) | exact Sep.a2 (by assumption) | exact Sep.a3 (by assumption)) (by exact Nat.succ_pos _)) (by rfl) ?_) | (go_at_call 17; refine (sMatchAt_c (by first | assumption | exact Sep.ints (by assumption) (by assumption) | exact Sep.i0 (by assumption) (by assumption) | exact Sep.i1 (by assumption) (by assumption) | exact Sep.i2 (by assumption) (by assumption) | exact Sep.i3 (by assumption) (by assumption)) hp).mono ?_; rintro _ w1 ⟨rfl, hb⟩; have S2 := Sep.ext (by assumption) hb; clear hb) | (go_at_call 18; refine (MatchAt_c (by first | assumption | exact Sep.ints (by assumption) (by assumption) | exact Sep.i0 (by assumption) (by assumption) | exact Sep.i1 (by assumption) (by assumption) | exact Sep.i2 (by assumption) (by assumption) | exact Sep.i3 (by assumption) (by assumption)) hp).mono ?_; rintro _ w1 ⟨rfl, hb⟩; have S2 := Sep.ext (by assumption) hb; clear hb) | (go_at_call 19; refine eqToken_c.mono ?_; rintro _ w1 ⟨rfl, hb⟩; have S2 := Sep.ext (by assumption) hb; clear hb))
  go_ret
  exact ⟨rfl, Sep.below (by assumption)⟩
end Go.Proofs.Ytdaadockbceflaa
