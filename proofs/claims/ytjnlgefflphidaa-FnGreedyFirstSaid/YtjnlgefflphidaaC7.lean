/-
  Contracts and a law: the least cost of tokens of a list is the reference's.
-/
import Derived.Test.YtjnlgefflphidaaC6
namespace Go.Proofs.Ytjnlgefflphidaa
set_option linter.unusedVariables false
set_option linter.unusedSimpArgs false
set_option linter.unnecessarySimpa false
open Go.RowKit

set_option maxHeartbeats 2000000 in
theorem l15Table_c {v : Value} {xs : List Int} {w : World} (hx : Ints w v xs) (hn : xs.length ≤ 1000000) :
    Calls Try.prog 55 #[v] w fun e w' => ∃ r f, e = .returned (.tuple #[r, f]) ∧ Sep w [tent 27 f (ftab xs xs.length), ient 3 r (ctab xs xs.length)] w' := by
  have S := Sep.refl w
  go_enter Try.func55, Try.ntmps55
  go_wp2_with (first | refine r_len rfl rfl st_int rfl (by first | exact Ints.rd (by assumption) | exact Acc.ints (Sep.a0 (by assumption)) | exact Acc.ints (Sep.a1 (by assumption)) | exact Acc.ints (Sep.a2 (by assumption))) ?_ | (refine r_makeInt rfl rfl st_int rfl rfl (by omega) (by omega) S ?_; intro out w1 S1) | (refine r_makeTok rfl rfl st_tok rfl rfl (by omega) (by omega) S1 ?_; intro fst w2 S2))
  go_loopw [6] (fun i wr => ∃ r : Nat, r ≤ xs.length ∧ i = .int .i64 ((xs.length : Int) - 1 - r) ∧ Sep w [tent 27 fst (List.replicate (xs.length - r) ⟨0, 0, 0⟩ ++ ftab xs r), ient 3 out (List.replicate (xs.length - r) 0 ++ ctab xs r)] wr) (fun i _ => (intOf i + 1).toNat)
  case atStart => exact ⟨0, Nat.zero_le _, by go_num, by
    have e : ((xs.length : Int) + 1).toNat = xs.length + 1 := by omega
    have e2 : ((xs.length : Int)).toNat = xs.length := by omega
    rw [e, e2] at S2
    simpa [ctab, ftab, List.replicate_succ'] using S2⟩
  case round =>
    clear S S1 S2
    obtain ⟨r, hr, rfl, S⟩ := hrel
    by_cases hlt : r < xs.length
    · obtain ⟨p, hp⟩ : ∃ p : Nat, xs.length = p + r + 1 := ⟨xs.length - r - 1, by omega⟩
      have e0 : ((xs.length : Int) - 1 - r) = (p : Int) := by omega
      rw [e0]
      have e1 : List.replicate (xs.length - r) 0 ++ ctab xs r = outAt p 0 (ctab xs r) := by
        rw [show xs.length - r = p + 1 by omega]; simp [outAt, List.replicate_succ']
      have e2 : List.replicate (xs.length - r) ⟨0, 0, 0⟩ ++ ftab xs r = tokAt p ⟨0, 0, 0⟩ (ftab xs r) := by
        rw [show xs.length - r = p + 1 by omega]; simp [tokAt, List.replicate_succ']
      rw [e1, e2] at S
      have hlen : ∀ y, (outAt p y (ctab xs r)).length = p + r + 2 := fun y => by rw [outAt_length, ctab_length]; omega
      have hlen2 : ∀ y, (tokAt p y (ftab xs r)).length = p + r + 1 := fun y => by rw [tokAt_length, ftab_length]; omega
      have b0 := ctab_gi xs r 0
      have hstep : stepCost xs p (ctab xs r) :: ctab xs r = ctab xs (r + 1) := by simp only [ctab]; rw [show xs.length - (r + 1) = p by omega]
      have hstep2 : firstTok xs p (ctab xs r) :: ftab xs r = ftab xs (r + 1) := by simp only [ftab]; rw [show xs.length - (r + 1) = p by omega]
      have HS := Lib.hid hstep
      have HS2 := Lib.hid hstep2
      have hp1 : xs.length ≤ p + r + 1 ∧ p + r + 1 ≤ xs.length := by omega
      clear hp e0 e1 e2 hstep hstep2
      generalize hR : ctab xs r = R at *
      have HR := Lib.hid hR; clear hR
      generalize hT : ftab xs r = T at *
      have HT := Lib.hid hT; clear hT
      have g1 : gi (outAt p 0 R) ((p : Int) + 1) = gi R 0 := outAt_later p 0 R 0 (by omega)
      have b1 : 0 ≤ gi (outAt p 0 R) ((p : Int) + 1) ∧ gi (outAt p 0 R) ((p : Int) + 1) ≤ 4 * r := by rw [g1]; exact b0
      have G1 := Lib.hid g1; clear g1
      have l1' : (outAt p 0 R).length ≤ p + r + 2 ∧ p + r + 2 ≤ (outAt p 0 R).length := by have := hlen 0; omega
      have l2' : (tokAt p ⟨0, 0, 0⟩ T).length ≤ p + r + 1 ∧ p + r + 1 ≤ (tokAt p ⟨0, 0, 0⟩ T).length := by have := hlen2 ⟨0, 0, 0⟩; omega
      have HL := Lib.hid hlen; clear hlen
      have HL2 := Lib.hid hlen2; clear hlen2
      go_wp2_with (first | refine r_len rfl rfl st_int rfl (by first | exact Ints.rd (by assumption) | exact Acc.ints (Sep.a0 (by assumption)) | exact Acc.ints (Sep.a1 (by assumption)) | exact Acc.ints (Sep.a2 (by assumption))) ?_ | refine r_index rfl rfl st_int rfl rfl (by first | exact Ints.rd (by assumption) | exact Acc.ints (Sep.a0 (by assumption)) | exact Acc.ints (Sep.a1 (by assumption)) | exact Acc.ints (Sep.a2 (by assumption))) (by omega) (by omega) ?_ | (first | refine r_loadInt rfl rfl t_int rfl (by first | exact Ints.rd (by assumption) | exact Ints.rdS (by assumption) (by assumption) | exact Acc.ints (Sep.a0 (by assumption)) | exact Acc.ints (Sep.a1 (by assumption)) | exact Acc.ints (Sep.a2 (by assumption))) (by omega) (by omega) ?_ | refine r_loadIntN rfl rfl t_int rfl (by first | exact Ints.rd (by assumption) | exact Ints.rdS (by assumption) (by assumption) | exact Acc.ints (Sep.a0 (by assumption)) | exact Acc.ints (Sep.a1 (by assumption)) | exact Acc.ints (Sep.a2 (by assumption))) (by omega) ?_) | refine r_index rfl rfl st_tok rfl rfl (by first | exact Toks.rd (by assumption) | exact Acc.toks (Sep.a0 (by assumption)) | exact Acc.toks (Sep.a1 (by assumption)) | exact Acc.toks (Sep.a2 (by assumption))) (by omega) (by omega) ?_ | ((first | refine r_storeInt rfl rfl sz_int rfl rfl S.a1 (by omega) (by omega) ?_ | refine r_storeIntN rfl rfl sz_int rfl rfl S.a1 (by omega) ?_); intro w3 S3) | (refine r_storeTok (t := ⟨_, _, _⟩) rfl rfl sz_tok rfl rfl S3.a0 (by omega) ?_; intro w4 S4))
      have S5 : Sep w [tent 27 fst (tokAt p (bbest xs p R (4 + gi R 0, ⟨gi xs p, 0, 0⟩) 0).2 T), ient 3 out (outAt p (bbest xs p R (4 + gi R 0, ⟨gi xs p, 0, 0⟩) 0).1 R)] w4 := by
        have S4' : Sep w [tent 27 fst ((tokAt p ⟨0, 0, 0⟩ T).set p ⟨gi xs p, 0, 0⟩), ient 3 out ((outAt p 0 R).set p (gi (outAt p 0 R) ((p : Int) + 1) + 4))] w4 := S4
        rw [outAt_set, tokAt_set, G1.out, Int.add_comm] at S4'; exact S4'
      clear S S3 S4 b1 G1 l1' l2'
      have hR : ∀ i : Int, 0 ≤ gi R i ∧ gi R i ≤ 4 * r := fun i => by rw [← HR.out]; exact ctab_gi xs r i
      have HRB := Lib.hid hR
      clear hR
      generalize hq0 : ((4 + gi R 0, ⟨gi xs p, 0, 0⟩) : Int × Tok) = q0 at *
      have Hq0 := Lib.hid hq0
      have bq0 : 0 ≤ q0.1 ∧ q0.1 ≤ 4 + 4 * r := by rw [← hq0]; dsimp only; omega
      clear hq0
      go_loopw [7] (fun i wr => ∃ b : Nat, b ≤ min 16 p ∧ i = .int .i64 ((b : Int) + 1) ∧ Sep w [tent 27 fst (tokAt p (bbest xs p R q0 b).2 T), ient 3 out (outAt p (bbest xs p R q0 b).1 R)] wr) (fun i _ => 17 - (intOf i).toNat)
      case atStart => exact ⟨0, Nat.zero_le _, rfl, S5⟩
      case round =>
        clear S5
        obtain ⟨b, hb, rfl, S⟩ := hrel
        have bb : 0 ≤ (bbest xs p R q0 b).1 ∧ (bbest xs p R q0 b).1 ≤ 4 + 4 * r := by
          have := bmin_bd (xs := xs) (p := p) (rest := R) (m := q0.1) (by omega) (fun i => (HRB.out i).1) b
          rw [bbest_fst]; omega
        by_cases hlt2 : b < min 16 p
        · have hd : decide ((b : Int) + 1 ≤ 16) = true := decide_eq_true (by omega)
          have hd2 : decide ((b : Int) + 1 ≤ (p : Int)) = true := decide_eq_true (by omega)
          have HM := Lib.hid (show bbest xs p R q0 (b + 1) = kbest R ((b : Int) + 1) (bbest xs p R q0 b) (matchLen xs p ((b : Int) + 1) - 1) from rfl)
          generalize hq : bbest xs p R q0 b = q at *
          clear hq
          have bm := matchLen_le xs p ((b : Int) + 1)
          have bl := matchLen_len (xs := xs) (back := (b : Int) + 1) (p := (p : Int)) (by omega)
          generalize hL : matchLen xs p ((b : Int) + 1) = M at *
          have HL' := Lib.hid hL
          clear hL
          go_wp2_with (first | (go_at_call 63; refine (l14Same_c (Sep.ints S hx) (by omega) (by omega) (by omega) (by omega)).mono ?_; rintro _ w1 ⟨rfl, hb'⟩; rw [HL'.out]; have S2 := S.ext hb'; clear hb' S))
          go_loopw [9] (fun i wr => ∃ j : Nat, j ≤ M - 1 ∧ i = .int .i64 ((j : Int) + 2) ∧ Sep w [tent 27 fst (tokAt p (kbest R ((b : Int) + 1) q j).2 T), ient 3 out (outAt p (kbest R ((b : Int) + 1) q j).1 R)] wr) (fun i _ => 12 - (intOf i).toNat)
          case atStart => exact ⟨0, Nat.zero_le _, rfl, S2⟩
          case round =>
            clear S2
            obtain ⟨j, hj, rfl, S⟩ := hrel
            have kb : 0 ≤ (kbest R ((b : Int) + 1) q j).1 ∧ (kbest R ((b : Int) + 1) q j).1 ≤ q.1 := by
              rw [kbest_fst]; exact kmin_bd (rest := R) (m := q.1) bb.1 (fun i => (HRB.out i).1) j
            by_cases hlt3 : j < M - 1
            · have b2 := HRB.out ((j : Int) + 1)
              by_cases hc : 8 + gi R ((j : Int) + 1) < (kbest R ((b : Int) + 1) q j).1
              · have HK := Lib.hid (kbest_yes hc)
                generalize hk : kbest R ((b : Int) + 1) q j = k at *
                clear hk
                have l2 : (outAt p k.1 R).length ≤ p + r + 2 ∧ p + r + 2 ≤ (outAt p k.1 R).length := by have := HL.out k.1; omega
                have l3 : (tokAt p k.2 T).length ≤ p + r + 1 ∧ p + r + 1 ≤ (tokAt p k.2 T).length := by have := HL2.out k.2; omega
                have g1 : gi (outAt p k.1 R) (p : Int) = k.1 := outAt_here p k.1 R
                have g2 : gi (outAt p k.1 R) ((p : Int) + ((j : Int) + 2)) = gi R ((j : Int) + 1) := by
                  have := outAt_later p k.1 R ((j : Int) + 1) (by omega)
                  rw [← this]; congr 1
                have b3 : 0 ≤ gi (outAt p k.1 R) ((p : Int) + ((j : Int) + 2)) ∧ gi (outAt p k.1 R) ((p : Int) + ((j : Int) + 2)) ≤ 4 * r := by rw [g2]; exact b2
                have hdec : decide (gi (outAt p k.1 R) ((p : Int) + ((j : Int) + 2)) + 8 < gi (outAt p k.1 R) (p : Int)) = true := decide_eq_true (by rw [g1, g2]; omega)
                have G2 := Lib.hid g2
                clear g1 g2
                go_wp2
                refine wp_region_below (by kernel_rfl) (by kernel_rfl) ?_
                (repeat (first | go_big_quiet_skip | (refine q_index rfl rfl st_int rfl rfl (by first | exact Ints.rd (by assumption) | exact Acc.ints (Sep.a0 (by assumption)) | exact Acc.ints (Sep.a1 (by assumption)) | exact Acc.ints (Sep.a2 (by assumption))) (by omega) (by omega) ?_; simp only [Act.put, Act.eval, List.setIfInBounds_toArray, List.set_cons_succ, List.set_cons_zero, Array.getD_eq_getD_getElem?, List.getElem?_toArray, List.getElem?_cons_succ, List.getElem?_cons_zero, Option.getD_some]) | (refine q_loadIntC rfl (by first | exact same_below _ | exact drew_below _) rfl t_int rfl (by first | exact Ints.rdQ (by assumption) | exact Ints.rdSQ (by assumption) (by assumption) | exact Acc.intsQ (Sep.a0 (by assumption)) | exact Acc.intsQ (Sep.a1 (by assumption)) | exact Acc.intsQ (Sep.a2 (by assumption))) (by omega) (by omega) ?_; simp only [Act.put, Act.eval, List.setIfInBounds_toArray, List.set_cons_succ, List.set_cons_zero, Array.getD_eq_getD_getElem?, List.getElem?_toArray, List.getElem?_cons_succ, List.getElem?_cons_zero, Option.getD_some]) | (refine q_len rfl rfl st_int rfl (by first | exact Ints.rd (by assumption) | exact Acc.ints (Sep.a0 (by assumption)) | exact Acc.ints (Sep.a1 (by assumption)) | exact Acc.ints (Sep.a2 (by assumption))) ?_; simp only [Act.put, Act.eval, List.setIfInBounds_toArray, List.set_cons_succ, List.set_cons_zero, Array.getD_eq_getD_getElem?, List.getElem?_toArray, List.getElem?_cons_succ, List.getElem?_cons_zero, Option.getD_some]) | (refine q_field rfl rfl (by first | exact fd_tok0 | exact fd_tok1 | exact fd_tok2) rfl (Acc.all (by first | exact Sep.a0 (by assumption) | exact Sep.a1 (by assumption) | exact Sep.a2 (by assumption) | exact Sep.a3 (by assumption)) (by simp)) ?_; simp only [Act.put, Act.eval, List.setIfInBounds_toArray, List.set_cons_succ, List.set_cons_zero, Array.getD_eq_getD_getElem?, List.getElem?_toArray, List.getElem?_cons_succ, List.getElem?_cons_zero, Option.getD_some]) | (refine q_load1C rfl (by first | exact same_below _ | exact drew_below _) rfl t_int rfl (fun _ hb => Acc.adr1 (Acc.ext (by first | exact Sep.a0 (by assumption) | exact Sep.a1 (by assumption) | exact Sep.a2 (by assumption) | exact Sep.a3 (by assumption)) hb) _ (by rfl)) rfl ?_; simp only [Act.put, Act.eval, List.setIfInBounds_toArray, List.set_cons_succ, List.set_cons_zero, Array.getD_eq_getD_getElem?, List.getElem?_toArray, List.getElem?_cons_succ, List.getElem?_cons_zero, Option.getD_some]) | (refine q_loadAggC rfl (by first | exact same_below _ | exact drew_below _) rfl tk_tok rfl (fun _ hb => Acc.all (Acc.ext (by first | exact Sep.a0 (by assumption) | exact Sep.a1 (by assumption) | exact Sep.a2 (by assumption) | exact Sep.a3 (by assumption)) hb) (by simp)) rfl ?_; simp only [Act.put, Act.eval, List.setIfInBounds_toArray, List.set_cons_succ, List.set_cons_zero, Array.getD_eq_getD_getElem?, List.getElem?_toArray, List.getElem?_cons_succ, List.getElem?_cons_zero, Option.getD_some]) | ((first | refine q_move rfl rfl rfl ?_ | refine q_assign rfl rfl rfl ?_ | refine q_pickT rfl rfl rfl rfl ?_ | refine q_pickF rfl rfl rfl rfl ?_ | refine q_lss rfl rfl rfl rfl (by first | assumption | exact decide_eq_true (by omega) | exact decide_eq_false (by omega) | rfl) ?_ | refine q_leq rfl rfl rfl rfl (by first | assumption | exact decide_eq_true (by omega) | exact decide_eq_false (by omega) | rfl) ?_ | refine q_gtr rfl rfl rfl rfl (by first | assumption | exact decide_eq_true (by omega) | exact decide_eq_false (by omega) | rfl) ?_ | refine q_geq rfl rfl rfl rfl (by first | assumption | exact decide_eq_true (by omega) | exact decide_eq_false (by omega) | rfl) ?_ | refine q_eql rfl rfl rfl rfl (by first | assumption | exact beq_iff_eq.2 (by omega) | exact beq_eq_false_iff_ne.2 (by omega) | rfl) ?_ | refine q_neq rfl rfl rfl rfl (by first | assumption | (rw [bne_iff_ne]; omega) | (rw [bne_eq_false_iff_eq]; omega) | rfl) ?_ | refine q_add rfl rfl rfl rfl (by omega) ?_ | refine q_sub rfl rfl rfl rfl (by omega) ?_ | refine q_mul rfl rfl rfl rfl (by omega) ?_ | refine q_min rfl rfl rfl rfl ?_ | refine q_max rfl rfl rfl rfl ?_ | refine q_not rfl rfl rfl rfl ?_); simp only [Act.put, Act.eval, List.setIfInBounds_toArray, List.set_cons_succ, List.set_cons_zero, Array.getD_eq_getD_getElem?, List.getElem?_toArray, List.getElem?_cons_succ, List.getElem?_cons_zero, Option.getD_some]) | (go_big_quiet_want; go_big_quiet_op; go_big_quiet_on)))
                refine wpQuiet_nil ?_
                intro w5 hb5
                have S6 := S.ext hb5
                clear S hb5
                go_wp2_with (first | refine r_index rfl rfl st_int rfl rfl (by first | exact Ints.rd (by assumption) | exact Acc.ints (Sep.a0 (by assumption)) | exact Acc.ints (Sep.a1 (by assumption)) | exact Acc.ints (Sep.a2 (by assumption))) (by omega) (by omega) ?_ | (first | refine r_loadInt rfl rfl t_int rfl (by first | exact Ints.rd (by assumption) | exact Ints.rdS (by assumption) (by assumption) | exact Acc.ints (Sep.a0 (by assumption)) | exact Acc.ints (Sep.a1 (by assumption)) | exact Acc.ints (Sep.a2 (by assumption))) (by omega) (by omega) ?_ | refine r_loadIntN rfl rfl t_int rfl (by first | exact Ints.rd (by assumption) | exact Ints.rdS (by assumption) (by assumption) | exact Acc.ints (Sep.a0 (by assumption)) | exact Acc.ints (Sep.a1 (by assumption)) | exact Acc.ints (Sep.a2 (by assumption))) (by omega) ?_) | refine r_index rfl rfl st_tok rfl rfl (by first | exact Toks.rd (by assumption) | exact Acc.toks (Sep.a0 (by assumption)) | exact Acc.toks (Sep.a1 (by assumption)) | exact Acc.toks (Sep.a2 (by assumption))) (by omega) (by omega) ?_ | ((first | refine r_storeInt rfl rfl sz_int rfl rfl S6.a1 (by omega) (by omega) ?_ | refine r_storeIntN rfl rfl sz_int rfl rfl S6.a1 (by omega) ?_); intro w6 S7) | (refine r_storeTok (t := ⟨_, _, _⟩) rfl rfl sz_tok rfl rfl S7.a0 (by omega) ?_; intro w7 S8))
                have S8' : Sep w [tent 27 fst ((tokAt p k.2 T).set p ⟨0, (b : Int) + 1, (j : Int) + 2⟩), ient 3 out ((outAt p k.1 R).set p (gi (outAt p k.1 R) ((p : Int) + ((j : Int) + 2)) + 8))] w7 := S8
                go_roundw
                case rel => exact ⟨j + 1, by omega, by go_num, by
                  rw [HK.out]
                  rw [outAt_set, tokAt_set, G2.out, Int.add_comm (gi R _) 8] at S8'
                  exact S8'⟩
                case measure => first | (simp [intOf]; done) | (simp [intOf]; omega)
              · have HK := Lib.hid (kbest_no hc)
                generalize hk : kbest R ((b : Int) + 1) q j = k at *
                clear hk
                have l2 : (outAt p k.1 R).length ≤ p + r + 2 ∧ p + r + 2 ≤ (outAt p k.1 R).length := by have := HL.out k.1; omega
                have g1 : gi (outAt p k.1 R) (p : Int) = k.1 := outAt_here p k.1 R
                have g2 : gi (outAt p k.1 R) ((p : Int) + ((j : Int) + 2)) = gi R ((j : Int) + 1) := by
                  have := outAt_later p k.1 R ((j : Int) + 1) (by omega)
                  rw [← this]; congr 1
                have b3 : 0 ≤ gi (outAt p k.1 R) ((p : Int) + ((j : Int) + 2)) ∧ gi (outAt p k.1 R) ((p : Int) + ((j : Int) + 2)) ≤ 4 * r := by rw [g2]; exact b2
                have hdec : decide (gi (outAt p k.1 R) ((p : Int) + ((j : Int) + 2)) + 8 < gi (outAt p k.1 R) (p : Int)) = false := decide_eq_false (by rw [g1, g2]; omega)
                clear g1 g2
                go_wp2
                refine wp_region_below (by kernel_rfl) (by kernel_rfl) ?_
                (repeat (first | go_big_quiet_skip | (refine q_index rfl rfl st_int rfl rfl (by first | exact Ints.rd (by assumption) | exact Acc.ints (Sep.a0 (by assumption)) | exact Acc.ints (Sep.a1 (by assumption)) | exact Acc.ints (Sep.a2 (by assumption))) (by omega) (by omega) ?_; simp only [Act.put, Act.eval, List.setIfInBounds_toArray, List.set_cons_succ, List.set_cons_zero, Array.getD_eq_getD_getElem?, List.getElem?_toArray, List.getElem?_cons_succ, List.getElem?_cons_zero, Option.getD_some]) | (refine q_loadIntC rfl (by first | exact same_below _ | exact drew_below _) rfl t_int rfl (by first | exact Ints.rdQ (by assumption) | exact Ints.rdSQ (by assumption) (by assumption) | exact Acc.intsQ (Sep.a0 (by assumption)) | exact Acc.intsQ (Sep.a1 (by assumption)) | exact Acc.intsQ (Sep.a2 (by assumption))) (by omega) (by omega) ?_; simp only [Act.put, Act.eval, List.setIfInBounds_toArray, List.set_cons_succ, List.set_cons_zero, Array.getD_eq_getD_getElem?, List.getElem?_toArray, List.getElem?_cons_succ, List.getElem?_cons_zero, Option.getD_some]) | (refine q_len rfl rfl st_int rfl (by first | exact Ints.rd (by assumption) | exact Acc.ints (Sep.a0 (by assumption)) | exact Acc.ints (Sep.a1 (by assumption)) | exact Acc.ints (Sep.a2 (by assumption))) ?_; simp only [Act.put, Act.eval, List.setIfInBounds_toArray, List.set_cons_succ, List.set_cons_zero, Array.getD_eq_getD_getElem?, List.getElem?_toArray, List.getElem?_cons_succ, List.getElem?_cons_zero, Option.getD_some]) | (refine q_field rfl rfl (by first | exact fd_tok0 | exact fd_tok1 | exact fd_tok2) rfl (Acc.all (by first | exact Sep.a0 (by assumption) | exact Sep.a1 (by assumption) | exact Sep.a2 (by assumption) | exact Sep.a3 (by assumption)) (by simp)) ?_; simp only [Act.put, Act.eval, List.setIfInBounds_toArray, List.set_cons_succ, List.set_cons_zero, Array.getD_eq_getD_getElem?, List.getElem?_toArray, List.getElem?_cons_succ, List.getElem?_cons_zero, Option.getD_some]) | (refine q_load1C rfl (by first | exact same_below _ | exact drew_below _) rfl t_int rfl (fun _ hb => Acc.adr1 (Acc.ext (by first | exact Sep.a0 (by assumption) | exact Sep.a1 (by assumption) | exact Sep.a2 (by assumption) | exact Sep.a3 (by assumption)) hb) _ (by rfl)) rfl ?_; simp only [Act.put, Act.eval, List.setIfInBounds_toArray, List.set_cons_succ, List.set_cons_zero, Array.getD_eq_getD_getElem?, List.getElem?_toArray, List.getElem?_cons_succ, List.getElem?_cons_zero, Option.getD_some]) | (refine q_loadAggC rfl (by first | exact same_below _ | exact drew_below _) rfl tk_tok rfl (fun _ hb => Acc.all (Acc.ext (by first | exact Sep.a0 (by assumption) | exact Sep.a1 (by assumption) | exact Sep.a2 (by assumption) | exact Sep.a3 (by assumption)) hb) (by simp)) rfl ?_; simp only [Act.put, Act.eval, List.setIfInBounds_toArray, List.set_cons_succ, List.set_cons_zero, Array.getD_eq_getD_getElem?, List.getElem?_toArray, List.getElem?_cons_succ, List.getElem?_cons_zero, Option.getD_some]) | ((first | refine q_move rfl rfl rfl ?_ | refine q_assign rfl rfl rfl ?_ | refine q_pickT rfl rfl rfl rfl ?_ | refine q_pickF rfl rfl rfl rfl ?_ | refine q_lss rfl rfl rfl rfl (by first | assumption | exact decide_eq_true (by omega) | exact decide_eq_false (by omega) | rfl) ?_ | refine q_leq rfl rfl rfl rfl (by first | assumption | exact decide_eq_true (by omega) | exact decide_eq_false (by omega) | rfl) ?_ | refine q_gtr rfl rfl rfl rfl (by first | assumption | exact decide_eq_true (by omega) | exact decide_eq_false (by omega) | rfl) ?_ | refine q_geq rfl rfl rfl rfl (by first | assumption | exact decide_eq_true (by omega) | exact decide_eq_false (by omega) | rfl) ?_ | refine q_eql rfl rfl rfl rfl (by first | assumption | exact beq_iff_eq.2 (by omega) | exact beq_eq_false_iff_ne.2 (by omega) | rfl) ?_ | refine q_neq rfl rfl rfl rfl (by first | assumption | (rw [bne_iff_ne]; omega) | (rw [bne_eq_false_iff_eq]; omega) | rfl) ?_ | refine q_add rfl rfl rfl rfl (by omega) ?_ | refine q_sub rfl rfl rfl rfl (by omega) ?_ | refine q_mul rfl rfl rfl rfl (by omega) ?_ | refine q_min rfl rfl rfl rfl ?_ | refine q_max rfl rfl rfl rfl ?_ | refine q_not rfl rfl rfl rfl ?_); simp only [Act.put, Act.eval, List.setIfInBounds_toArray, List.set_cons_succ, List.set_cons_zero, Array.getD_eq_getD_getElem?, List.getElem?_toArray, List.getElem?_cons_succ, List.getElem?_cons_zero, Option.getD_some]) | (go_big_quiet_want; go_big_quiet_op; go_big_quiet_on)))
                refine wpQuiet_nil ?_
                intro w5 hb5
                have S6 := S.ext hb5
                clear S hb5
                go_wp2
                go_roundw
                case rel => exact ⟨j + 1, by omega, by go_num, by rw [HK.out]; exact S6⟩
                case measure => first | (simp [intOf]; done) | (simp [intOf]; omega)
            · have HJ : j = M - 1 := by omega
              go_wp2
              go_roundw
              case rel => exact ⟨b + 1, by omega, by go_num, by rw [HM.out]; rw [HJ] at S; exact S⟩
              case measure => first | (simp [intOf]; done) | (simp [intOf]; omega)
        · have HB := Lib.hid (show b = min 16 p by omega)
          have hfin : Sep w [tent 27 fst (List.replicate (xs.length - (r + 1)) ⟨0, 0, 0⟩ ++ ftab xs (r + 1)), ient 3 out (List.replicate (xs.length - (r + 1)) 0 ++ ctab xs (r + 1))] wr := by
            rw [show xs.length - (r + 1) = p by omega, ← HS.out, ← HS2.out]
            simp only [stepCost, firstTok]
            rw [← HB.out, Hq0.out]
            have := S
            rw [bbest_fst, ← Hq0.out] at this
            rw [← Hq0.out]
            exact this
          have h17 : ¬ ((b : Int) + 1 ≤ 16 ∧ (b : Int) + 1 ≤ (p : Int)) := by omega
          cases h16 : decide ((b : Int) + 1 ≤ 16) with
          | true =>
            have h19 : decide ((b : Int) + 1 ≤ (p : Int)) = false := decide_eq_false fun h => h17 ⟨of_decide_eq_true h16, h⟩
            clear h17 hlt2
            go_wp2
            go_roundw
            case rel => exact ⟨r + 1, by omega, by go_num, hfin⟩
            case measure => first | (simp [intOf]; done) | (simp [intOf]; omega)
          | false =>
            clear h17 hlt2
            go_wp2
            go_roundw
            case rel => exact ⟨r + 1, by omega, by go_num, hfin⟩
            case measure => first | (simp [intOf]; done) | (simp [intOf]; omega)
    · go_wp2
      go_ret2
      have e : r = xs.length := by omega
      rw [e] at S
      exact ⟨_, _, rfl, by simpa using S⟩
theorem sParseLeast_c {v : Value} {xs : List Int} {w : World} (hx : Ints w v xs) :
    Calls Try.prog 25 #[v] w fun e w' => e = .returned (.int .i64 (parseLeast xs)) ∧ Below w.heap.size w w' := by
  have S := Sep.refl w
  cases hok : listOk xs with
  | true =>
    obtain ⟨hl, hall⟩ := listOk_iff.1 hok
    have HO := Lib.hid (show parseLeast xs = gi (ctab xs xs.length) 0 by simp [parseLeast, hok])
    have hcl : 0 < (ctab xs xs.length).length := by rw [ctab_length]; omega
    go_enter Try.func25, Try.ntmps25
    go_wp2_with (first | (go_at_call 30; refine (sListValid_c hx).mono ?_; rintro _ w4 ⟨rfl, rfl⟩) | (go_at_call 55; refine (l15Table_c hx (by omega)).mono ?_; rintro _ w2 ⟨r, f, rfl, S2⟩) | (refine r_index rfl rfl st_int rfl rfl (Acc.ints S2.a1) (by omega) (by omega) ?_) | (refine r_loadInt rfl rfl t_int rfl (Acc.ints S2.a1) (by omega) (by omega) ?_))
    go_ret
    exact ⟨ret_int HO.out.symm, Sep.below S2⟩
  | false =>
    have HO := Lib.hid (show parseLeast xs = -1 by simp [parseLeast, hok])
    go_enter Try.func25, Try.ntmps25
    go_wp2_with (first | (go_at_call 30; refine (sListValid_c hx).mono ?_; rintro _ w4 ⟨rfl, rfl⟩))
    go_ret
    exact ⟨ret_int HO.out.symm, Sep.below S⟩
theorem ParseLeast_c {v : Value} {xs : List Int} {w : World} (hx : Ints w v xs) :
    Calls Try.prog 24 #[v] w fun e w' => e = .returned (.int .i64 (parseLeast xs)) ∧ Below w.heap.size w w' := by
  have S := Sep.refl w
  cases hok : listOk xs with
  | true =>
    obtain ⟨hl, hall⟩ := listOk_iff.1 hok
    have HO := Lib.hid (show parseLeast xs = gi (ctab xs xs.length) 0 by simp [parseLeast, hok])
    have hcl : 0 < (ctab xs xs.length).length := by rw [ctab_length]; omega
    go_enter Try.func24, Try.ntmps24
    go_wp2_with (first | (go_at_call 38; refine (ListValid_c hx).mono ?_; rintro _ w4 ⟨rfl, rfl⟩) | (go_at_call 54; refine (costsFrom_c hx (by omega)).mono ?_; rintro _ w2 ⟨r, rfl, S2⟩) | (refine r_index rfl rfl st_int rfl rfl (Acc.ints S2.a0) (by omega) (by omega) ?_) | (refine r_loadInt rfl rfl t_int rfl (Acc.ints S2.a0) (by omega) (by omega) ?_))
    go_ret
    exact ⟨ret_int HO.out.symm, Sep.below S2⟩
  | false =>
    have HO := Lib.hid (show parseLeast xs = -1 by simp [parseLeast, hok])
    go_enter Try.func24, Try.ntmps24
    go_wp2_with (first | (go_at_call 38; refine (ListValid_c hx).mono ?_; rintro _ w4 ⟨rfl, rfl⟩))
    go_ret
    exact ⟨ret_int HO.out.symm, Sep.below S⟩
end Go.Proofs.Ytjnlgefflphidaa
