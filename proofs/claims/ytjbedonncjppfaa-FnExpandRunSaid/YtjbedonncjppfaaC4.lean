/-
  Contracts and a law: the longest match at a place.
-/
import Derived.Test.YtjbedonncjppfaaC3
namespace Go.Proofs.Ytjbedonncjppfaa
set_option linter.unusedVariables false
set_option linter.unusedSimpArgs false
set_option linter.unnecessarySimpa false
open Go.RowKit

theorem ret_agg_bool {u : Value} {t : Tok} {b : Bool} (h : u = .bool b) : Ending.returned (.tuple #[.agg [.int .i64 t.s, .int .i64 t.b, .int .i64 t.m].toArray, u]) = .returned (.tuple #[.agg (tcs t).toArray, .bool b]) := by rw [h]; rfl

theorem ret_match {u : Value} {t t' : Tok} (ht : t = t') (h : u = .bool (decide (0 < t.m))) : Ending.returned (.tuple #[.agg [.int .i64 t.s, .int .i64 t.b, .int .i64 t.m].toArray, u]) = .returned (.tuple #[.agg (tcs t').toArray, .bool (decide (0 < t'.m))]) := by subst ht; rw [h]; rfl

theorem l14Match_c {v : Value} {xs : List Int} {w : World} (hx : Ints w v xs) {p : Int} (hp : 0 ≤ p) (hp' : p < xs.length) :
    Calls Try.prog 40 #[v, .int .i64 p] w fun e w' =>
      e = .returned (.tuple #[.agg (tcs (mbest xs p (min 16 p.toNat))).toArray, .bool (decide (0 < (mbest xs p (min 16 p.toNat)).m))]) ∧ Below w.heap.size w w' := by
  have hl := hx.1.2.1
  have S := Sep.refl w
  go_enter Try.func40, Try.ntmps40
  go_wp2_with (first | (refine r_alloc rfl rfl z_tok S ?_; intro res w1 S1) | (refine r_alloc rfl rfl z_tok S1 ?_; intro best w2 S2) | (refine r_storeAgg rfl rfl sz_tok rfl rfl rfl rfl (by simp) S2.a0 rfl ?_; intro w3 S3))
  go_loopw [7] (fun i wr => ∃ k : Nat, k ≤ min 16 p.toNat ∧ i = .int .i64 ((k : Int) + 1) ∧ Sep w [bent 27 best (tcs (mbest xs p k)), bent 27 res [.int .i64 0, .int .i64 0, .int .i64 0]] wr) (fun i _ => 17 - (intOf i).toNat)
  case atStart => exact ⟨0, Nat.zero_le _, rfl, S3⟩
  case round =>
    clear S S1 S2 S3
    obtain ⟨k, hk, rfl, S⟩ := hrel
    have hbd := mbest_bd xs p k
    unfold tcs at S
    by_cases hlt : k < min 16 p.toNat
    · have hm := matchLen_le xs p (k + 1 : Nat)
      have e1 : (((k + 1 : Nat) : Int)) = (k : Int) + 1 := by omega
      by_cases hc : 2 ≤ (matchLen xs p (k + 1 : Nat) : Int) ∧ (mbest xs p k).m < (matchLen xs p (k + 1 : Nat) : Int)
      · have HY := Lib.hid (mbest_yes hc)
        obtain ⟨c1, c2⟩ := hc
        rw [e1] at hm c1 c2
        rw [e1] at HY
        clear e1
        go_wp2_with (first | (go_at_call 48; refine (l14Same_c (Sep.ints S hx) (by omega) (by omega) (by omega) (by omega)).mono ?_; rintro _ w1 ⟨rfl, hb⟩; have S1 := S.ext hb) | (refine r_field rfl rfl (by first | exact fd_tok0 | exact fd_tok1 | exact fd_tok2) rfl (Acc.all (by first | exact Sep.a0 (by assumption) | exact Sep.a1 (by assumption) | exact Sep.a2 (by assumption) | exact Sep.a3 (by assumption)) (by simp)) ?_) | (refine r_load1 rfl rfl t_int rfl (Acc.adr1 (by first | exact Sep.a0 (by assumption) | exact Sep.a1 (by assumption) | exact Sep.a2 (by assumption) | exact Sep.a3 (by assumption)) _ (by rfl)) rfl ?_) | (refine r_storeAgg rfl rfl sz_tok rfl rfl rfl rfl (by simp) S1.a0 rfl ?_; intro w2 S2))
        go_roundw
        case rel => exact ⟨k + 1, by omega, by go_num, by rw [HY.out]; exact S2⟩
        case measure => simp [intOf]; omega
      · have HY := Lib.hid (mbest_no hc)
        rw [e1] at hm hc
        clear e1
        by_cases h2 : 2 ≤ (matchLen xs p ((k : Int) + 1) : Int)
        · have h3 : ¬ (mbest xs p k).m < (matchLen xs p ((k : Int) + 1) : Int) := fun h => hc ⟨h2, h⟩
          clear hc
          go_wp2_with (first | (go_at_call 48; refine (l14Same_c (Sep.ints S hx) (by omega) (by omega) (by omega) (by omega)).mono ?_; rintro _ w1 ⟨rfl, hb⟩; have S1 := S.ext hb) | (refine r_field rfl rfl (by first | exact fd_tok0 | exact fd_tok1 | exact fd_tok2) rfl (Acc.all (by first | exact Sep.a0 (by assumption) | exact Sep.a1 (by assumption) | exact Sep.a2 (by assumption) | exact Sep.a3 (by assumption)) (by simp)) ?_) | (refine r_load1 rfl rfl t_int rfl (Acc.adr1 (by first | exact Sep.a0 (by assumption) | exact Sep.a1 (by assumption) | exact Sep.a2 (by assumption) | exact Sep.a3 (by assumption)) _ (by rfl)) rfl ?_))
          go_roundw
          case rel => exact ⟨k + 1, by omega, by go_num, by rw [HY.out]; exact S1⟩
          case measure => simp [intOf]; omega
        · have h3 : decide (2 ≤ (matchLen xs p ((k : Int) + 1) : Int)) = false := decide_eq_false h2
          clear hc
          go_wp2_with (first | (go_at_call 48; refine (l14Same_c (Sep.ints S hx) (by omega) (by omega) (by omega) (by omega)).mono ?_; rintro _ w1 ⟨rfl, hb⟩; have S1 := S.ext hb) | (refine r_field rfl rfl (by first | exact fd_tok0 | exact fd_tok1 | exact fd_tok2) rfl (Acc.all (by first | exact Sep.a0 (by assumption) | exact Sep.a1 (by assumption) | exact Sep.a2 (by assumption) | exact Sep.a3 (by assumption)) (by simp)) ?_) | (refine r_load1 rfl rfl t_int rfl (Acc.adr1 (by first | exact Sep.a0 (by assumption) | exact Sep.a1 (by assumption) | exact Sep.a2 (by assumption) | exact Sep.a3 (by assumption)) _ (by rfl)) rfl ?_))
          go_roundw
          case rel => exact ⟨k + 1, by omega, by go_num, by rw [HY.out]; exact S1⟩
          case measure => simp [intOf]; omega
    · have HK := Lib.hid (show k = min 16 p.toNat by omega)
      have h17 : ¬ ((k : Int) + 1 ≤ 16 ∧ (k : Int) + 1 ≤ p) := by omega
      cases h16 : decide ((k : Int) + 1 ≤ 16) with
      | true =>
        have h19 : decide ((k : Int) + 1 ≤ p) = false := decide_eq_false fun h => h17 ⟨of_decide_eq_true h16, h⟩
        clear h17 hlt
        go_wp2
        (obtain ⟨b, c, e1, e2, n1, n2, hc, f1, f2, g1, g2, g3⟩ := S.two; rw [e1, e2]; have g10 := g1 0 _ rfl; have g11 := g1 1 _ rfl; have g12 := g1 2 _ rfl; have g20 := g2 0 _ rfl; have g21 := g2 1 _ rfl; have g22 := g2 2 _ rfl; have g30 := g3 0; have g31 := g3 1; have g32 := g3 2; have F2 := Lib.hid (set3 f2 S.below hc); clear g1 g2 g3 e1 e2 f1 f2; go_region; go_wp2; exact bodyPost_ret (res_box_tmp rfl (elem_zero c).symm tk_tok (F2.out _ _ _).1 rfl) rfl ⟨ret_match (by rw [HK.out]) rfl, (F2.out _ _ _).2⟩)
      | false =>
        clear h17 hlt
        go_wp2
        (obtain ⟨b, c, e1, e2, n1, n2, hc, f1, f2, g1, g2, g3⟩ := S.two; rw [e1, e2]; have g10 := g1 0 _ rfl; have g11 := g1 1 _ rfl; have g12 := g1 2 _ rfl; have g20 := g2 0 _ rfl; have g21 := g2 1 _ rfl; have g22 := g2 2 _ rfl; have g30 := g3 0; have g31 := g3 1; have g32 := g3 2; have F2 := Lib.hid (set3 f2 S.below hc); clear g1 g2 g3 e1 e2 f1 f2; go_region; go_wp2; exact bodyPost_ret (res_box_tmp rfl (elem_zero c).symm tk_tok (F2.out _ _ _).1 rfl) rfl ⟨ret_match (by rw [HK.out]) rfl, (F2.out _ _ _).2⟩)
theorem MatchAt_c {v : Value} {xs : List Int} {w : World} (hx : Ints w v xs) {p : Int} (hI : I64 p) :
    Calls Try.prog 13 #[v, .int .i64 p] w fun e w' =>
      e = .returned (.tuple #[.agg (tcs (matchAt xs p)).toArray, .bool (matchOk xs p)]) ∧ Below w.heap.size w w' := by
  have hl := hx.1.2.1
  have S := Sep.refl w
  by_cases hok : listOk xs = true ∧ inB 0 (xs.length - 1) p = true
  · obtain ⟨h1, h2⟩ := hok
    have hp := inB_iff.1 h2
    have hfin : matchAt xs p = mbest xs p (min 16 p.toNat) := by simp [matchAt, placeOk, h1, h2]
    have hfin2 : matchOk xs p = decide (0 < (mbest xs p (min 16 p.toNat)).m) := by simp [matchOk, hfin]
    rw [hfin, hfin2]
    clear hfin hfin2
    go_enter Try.func13, Try.ntmps13
    go_wp2_with (first | (refine r_alloc rfl rfl z_tok S ?_; intro res w1 S1) | (refine r_alloc rfl rfl z_tok S1 ?_; intro best w2 S2) | (refine r_storeAgg rfl rfl sz_tok rfl rfl rfl rfl (by simp) S2.a0 rfl ?_; intro w3 S3) | (go_at_call 24; refine (ListValid_c (Sep.ints S3 hx)).mono ?_; rintro _ w4 ⟨rfl, rfl⟩) | (go_at_call 37; refine (within_c _ _ _ _).mono ?_; rintro _ w4 ⟨rfl, rfl⟩) | refine r_len rfl rfl st_int rfl (by first | exact Ints.rd (by assumption) | exact Acc.ints (Sep.a0 (by assumption)) | exact Acc.ints (Sep.a1 (by assumption)) | exact Acc.ints (Sep.a2 (by assumption))) ?_)
    clear h1 h2
    go_loopw [7] (fun i wr => ∃ k : Nat, k ≤ min 16 p.toNat ∧ i = .int .i64 ((k : Int) + 1) ∧ Sep w [bent 27 best (tcs (mbest xs p k)), bent 27 res [.int .i64 0, .int .i64 0, .int .i64 0]] wr) (fun i _ => 17 - (intOf i).toNat)
    case atStart => exact ⟨0, Nat.zero_le _, rfl, S3⟩
    case round =>
      clear S S1 S2 S3
      obtain ⟨k, hk, rfl, S⟩ := hrel
      have hbd := mbest_bd xs p k
      unfold tcs at S
      by_cases hlt : k < min 16 p.toNat
      · have hm := matchLen_le xs p (k + 1 : Nat)
        have e1 : (((k + 1 : Nat) : Int)) = (k : Int) + 1 := by omega
        by_cases hc : 2 ≤ (matchLen xs p (k + 1 : Nat) : Int) ∧ (mbest xs p k).m < (matchLen xs p (k + 1 : Nat) : Int)
        · have HY := Lib.hid (mbest_yes hc)
          obtain ⟨c1, c2⟩ := hc
          rw [e1] at hm c1 c2
          rw [e1] at HY
          clear e1
          go_wp2_with (first | (go_at_call 38; refine (matchLong_c (Sep.ints S hx) (by omega) (by omega) (by omega) (by omega)).mono ?_; rintro _ w1 ⟨rfl, hb⟩; have S1 := S.ext hb) | (refine r_field rfl rfl (by first | exact fd_tok0 | exact fd_tok1 | exact fd_tok2) rfl (Acc.all (by first | exact Sep.a0 (by assumption) | exact Sep.a1 (by assumption) | exact Sep.a2 (by assumption) | exact Sep.a3 (by assumption)) (by simp)) ?_) | (refine r_load1 rfl rfl t_int rfl (Acc.adr1 (by first | exact Sep.a0 (by assumption) | exact Sep.a1 (by assumption) | exact Sep.a2 (by assumption) | exact Sep.a3 (by assumption)) _ (by rfl)) rfl ?_) | (refine r_storeAgg rfl rfl sz_tok rfl rfl rfl rfl (by simp) S1.a0 rfl ?_; intro w2 S2))
          go_roundw
          case rel => exact ⟨k + 1, by omega, by go_num, by rw [HY.out]; exact S2⟩
          case measure => simp [intOf]; omega
        · have HY := Lib.hid (mbest_no hc)
          rw [e1] at hm hc
          clear e1
          by_cases h2 : 2 ≤ (matchLen xs p ((k : Int) + 1) : Int)
          · have h3 : ¬ (mbest xs p k).m < (matchLen xs p ((k : Int) + 1) : Int) := fun h => hc ⟨h2, h⟩
            clear hc
            go_wp2_with (first | (go_at_call 38; refine (matchLong_c (Sep.ints S hx) (by omega) (by omega) (by omega) (by omega)).mono ?_; rintro _ w1 ⟨rfl, hb⟩; have S1 := S.ext hb) | (refine r_field rfl rfl (by first | exact fd_tok0 | exact fd_tok1 | exact fd_tok2) rfl (Acc.all (by first | exact Sep.a0 (by assumption) | exact Sep.a1 (by assumption) | exact Sep.a2 (by assumption) | exact Sep.a3 (by assumption)) (by simp)) ?_) | (refine r_load1 rfl rfl t_int rfl (Acc.adr1 (by first | exact Sep.a0 (by assumption) | exact Sep.a1 (by assumption) | exact Sep.a2 (by assumption) | exact Sep.a3 (by assumption)) _ (by rfl)) rfl ?_))
            go_roundw
            case rel => exact ⟨k + 1, by omega, by go_num, by rw [HY.out]; exact S1⟩
            case measure => simp [intOf]; omega
          · have h3 : decide (2 ≤ (matchLen xs p ((k : Int) + 1) : Int)) = false := decide_eq_false h2
            clear hc
            go_wp2_with (first | (go_at_call 38; refine (matchLong_c (Sep.ints S hx) (by omega) (by omega) (by omega) (by omega)).mono ?_; rintro _ w1 ⟨rfl, hb⟩; have S1 := S.ext hb) | (refine r_field rfl rfl (by first | exact fd_tok0 | exact fd_tok1 | exact fd_tok2) rfl (Acc.all (by first | exact Sep.a0 (by assumption) | exact Sep.a1 (by assumption) | exact Sep.a2 (by assumption) | exact Sep.a3 (by assumption)) (by simp)) ?_) | (refine r_load1 rfl rfl t_int rfl (Acc.adr1 (by first | exact Sep.a0 (by assumption) | exact Sep.a1 (by assumption) | exact Sep.a2 (by assumption) | exact Sep.a3 (by assumption)) _ (by rfl)) rfl ?_))
            go_roundw
            case rel => exact ⟨k + 1, by omega, by go_num, by rw [HY.out]; exact S1⟩
            case measure => simp [intOf]; omega
      · have HK := Lib.hid (show k = min 16 p.toNat by omega)
        have h17 : ¬ (k : Int) + 1 ≤ min 16 p := by omega
        clear hlt
        go_wp2
        all_goals (obtain ⟨b, c, e1, e2, n1, n2, hc, f1, f2, g1, g2, g3⟩ := S.two; rw [e1, e2]; have g10 := g1 0 _ rfl; have g11 := g1 1 _ rfl; have g12 := g1 2 _ rfl; have g20 := g2 0 _ rfl; have g21 := g2 1 _ rfl; have g22 := g2 2 _ rfl; have g30 := g3 0; have g31 := g3 1; have g32 := g3 2; have F2 := Lib.hid (set3 f2 S.below hc); clear g1 g2 g3 e1 e2 f1 f2; go_region; go_wp2; exact bodyPost_ret (res_box_tmp rfl (elem_zero c).symm tk_tok (F2.out _ _ _).1 rfl) rfl ⟨ret_match (by rw [HK.out]) rfl, (F2.out _ _ _).2⟩)
  · have hfin : matchAt xs p = ⟨0, 0, 0⟩ := by
      have : placeOk xs p = false := by
        cases hb : placeOk xs p with
        | false => rfl
        | true => simp only [placeOk, Bool.and_eq_true] at hb; exact absurd hb hok
      simp [matchAt, this]
    have hfin2 : matchOk xs p = false := by simp [matchOk, hfin]
    rw [hfin, hfin2]
    clear hfin hfin2
    cases h1 : listOk xs with
    | false =>
      clear hok
      go_enter Try.func13, Try.ntmps13
      go_wp2_with (first | (refine r_alloc rfl rfl z_tok S ?_; intro res w1 S1) | (refine r_alloc rfl rfl z_tok S1 ?_; intro best w2 S2) | (refine r_storeAgg rfl rfl sz_tok rfl rfl rfl rfl (by simp) S2.a0 rfl ?_; intro w3 S3) | (go_at_call 24; refine (ListValid_c (Sep.ints S3 hx)).mono ?_; rintro _ w4 ⟨rfl, rfl⟩) | (refine r_loadAgg rfl rfl tk_tok rfl (Acc.all S3.a0 (by simp)) rfl ?_) | (refine r_storeAgg rfl rfl sz_tok rfl rfl rfl rfl (by simp) S3.a1 rfl ?_; intro w5 S5))
      refine bodyPost_ret (res_box_tmp rfl rfl tk_tok (Acc.all (Sep.a1 S5) (by simp)) rfl) rfl ⟨ret_agg_bool (t := ⟨0, 0, 0⟩) rfl, Sep.below S5⟩
    | true =>
      have h2 : inB 0 (xs.length - 1) p = false := by
        cases hb : inB 0 (xs.length - 1) p with
        | false => rfl
        | true => exact absurd ⟨h1, hb⟩ hok
      clear hok
      go_enter Try.func13, Try.ntmps13
      go_wp2_with (first | (refine r_alloc rfl rfl z_tok S ?_; intro res w1 S1) | (refine r_alloc rfl rfl z_tok S1 ?_; intro best w2 S2) | (refine r_storeAgg rfl rfl sz_tok rfl rfl rfl rfl (by simp) S2.a0 rfl ?_; intro w3 S3) | (go_at_call 24; refine (ListValid_c (Sep.ints S3 hx)).mono ?_; rintro _ w4 ⟨rfl, rfl⟩) | (go_at_call 37; refine (within_c _ _ _ _).mono ?_; rintro _ w4 ⟨rfl, rfl⟩) | refine r_len rfl rfl st_int rfl (by first | exact Ints.rd (by assumption) | exact Acc.ints (Sep.a0 (by assumption)) | exact Acc.ints (Sep.a1 (by assumption)) | exact Acc.ints (Sep.a2 (by assumption))) ?_ | (refine r_loadAgg rfl rfl tk_tok rfl (Acc.all S3.a0 (by simp)) rfl ?_) | (refine r_storeAgg rfl rfl sz_tok rfl rfl rfl rfl (by simp) S3.a1 rfl ?_; intro w5 S5))
      refine bodyPost_ret (res_box_tmp rfl rfl tk_tok (Acc.all (Sep.a1 S5) (by simp)) rfl) rfl ⟨ret_agg_bool (t := ⟨0, 0, 0⟩) rfl, Sep.below S5⟩
end Go.Proofs.Ytjbedonncjppfaa
