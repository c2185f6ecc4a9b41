/-
  Contracts and a law: the least cost of tokens of a list.
-/
import Derived.Test.YtjbedonncjppfaaC3
import Derived.Test.YtjbedonncjppfaaPure2
namespace Go.Proofs.Ytjbedonncjppfaa
set_option linter.unusedVariables false
set_option linter.unusedSimpArgs false
set_option linter.unnecessarySimpa false
open Go.RowKit

theorem costsFrom_c {v : Value} {xs : List Int} {w : World} (hx : Ints w v xs) (hn : xs.length ≤ 1000000) :
    Calls Try.prog 47 #[v] w fun e w' => ∃ r, e = .returned r ∧ Sep w [ient 3 r (ctab xs xs.length)] w' := by
  have S := Sep.refl w
  go_enter Try.func47, Try.ntmps47
  go_wp2_with (first | refine r_len rfl rfl st_int rfl (by first | exact Ints.rd (by assumption) | exact Acc.ints (Sep.a0 (by assumption)) | exact Acc.ints (Sep.a1 (by assumption)) | exact Acc.ints (Sep.a2 (by assumption))) ?_ | (refine r_makeInt rfl rfl st_int rfl rfl (by omega) (by omega) S ?_; intro out w1 S1))
  go_loopw [4] (fun i wr => ∃ r : Nat, r ≤ xs.length ∧ i = .int .i64 ((xs.length : Int) - 1 - r) ∧ Sep w [ient 3 out (List.replicate (xs.length - r) 0 ++ ctab xs r)] wr) (fun i _ => (intOf i + 1).toNat)
  case atStart => exact ⟨0, Nat.zero_le _, by go_num, by
    have e : ((xs.length : Int) + 1).toNat = xs.length + 1 := by omega
    rw [e] at S1
    simpa [ctab, List.replicate_succ'] using S1⟩
  case round =>
    clear S S1
    obtain ⟨r, hr, rfl, S⟩ := hrel
    by_cases hlt : r < xs.length
    · obtain ⟨p, hp⟩ : ∃ p : Nat, xs.length = p + r + 1 := ⟨xs.length - r - 1, by omega⟩
      have e0 : ((xs.length : Int) - 1 - r) = (p : Int) := by omega
      rw [e0]
      have e1 : List.replicate (xs.length - r) 0 ++ ctab xs r = outAt p 0 (ctab xs r) := by
        rw [show xs.length - r = p + 1 by omega]; simp [outAt, List.replicate_succ']
      rw [e1] at S
      have hlen : ∀ y, (outAt p y (ctab xs r)).length = p + r + 2 := fun y => by rw [outAt_length, ctab_length]; omega
      have b0 := ctab_gi xs r 0
      have hstep : stepCost xs p (ctab xs r) :: ctab xs r = ctab xs (r + 1) := by simp only [ctab]; rw [show xs.length - (r + 1) = p by omega]
      have HS := Lib.hid hstep
      have HP := Lib.hid hp
      have hp1 : xs.length ≤ p + r + 1 ∧ p + r + 1 ≤ xs.length := by omega
      clear hp e0 e1 hstep
      generalize hR : ctab xs r = R at *
      have HR := Lib.hid hR; clear hR
      have g1 : gi (outAt p 0 R) ((p : Int) + 1) = gi R 0 := outAt_later p 0 R 0 (by omega)
      have b1 : 0 ≤ gi (outAt p 0 R) ((p : Int) + 1) ∧ gi (outAt p 0 R) ((p : Int) + 1) ≤ 4 * r := by rw [g1]; exact b0
      have G1 := Lib.hid g1; clear g1
      have l1 := hlen 0
      have l1' : (outAt p 0 R).length ≤ p + r + 2 ∧ p + r + 2 ≤ (outAt p 0 R).length := by omega
      clear l1
      have HL := Lib.hid hlen; clear hlen
      go_wp2_with (first | refine r_len rfl rfl st_int rfl (by first | exact Ints.rd (by assumption) | exact Acc.ints (Sep.a0 (by assumption)) | exact Acc.ints (Sep.a1 (by assumption)) | exact Acc.ints (Sep.a2 (by assumption))) ?_ | refine r_index rfl rfl st_int rfl rfl (by first | exact Ints.rd (by assumption) | exact Acc.ints (Sep.a0 (by assumption)) | exact Acc.ints (Sep.a1 (by assumption)) | exact Acc.ints (Sep.a2 (by assumption))) (by omega) (by omega) ?_ | (first | refine r_loadInt rfl rfl t_int rfl (by first | exact Ints.rd (by assumption) | exact Ints.rdS (by assumption) (by assumption) | exact Acc.ints (Sep.a0 (by assumption)) | exact Acc.ints (Sep.a1 (by assumption)) | exact Acc.ints (Sep.a2 (by assumption))) (by omega) (by omega) ?_ | refine r_loadIntN rfl rfl t_int rfl (by first | exact Ints.rd (by assumption) | exact Ints.rdS (by assumption) (by assumption) | exact Acc.ints (Sep.a0 (by assumption)) | exact Acc.ints (Sep.a1 (by assumption)) | exact Acc.ints (Sep.a2 (by assumption))) (by omega) ?_) | ((first | refine r_storeInt rfl rfl sz_int rfl rfl (by first | exact Sep.a0 (by assumption) | exact Sep.a1 (by assumption) | exact Sep.a2 (by assumption) | exact Sep.a3 (by assumption)) (by omega) (by omega) ?_ | refine r_storeIntN rfl rfl sz_int rfl rfl (by first | exact Sep.a0 (by assumption) | exact Sep.a1 (by assumption) | exact Sep.a2 (by assumption) | exact Sep.a3 (by assumption)) (by omega) ?_); intro w1 S2))
      have S3 : Sep w [ient 3 out (outAt p (bmin xs p R (4 + gi R 0) 0) R)] w1 := by
        have S2' : Sep w [ient 3 out ((outAt p 0 R).set p (4 + gi (outAt p 0 R) ((p : Int) + 1)))] w1 := S2
        rw [outAt_set, G1.out] at S2'; exact S2'
      clear S S2 b1 G1 l1'
      have hR : ∀ i : Int, 0 ≤ gi R i ∧ gi R i ≤ 4 * r := fun i => by rw [← HR.out]; exact ctab_gi xs r i
      have HRB := Lib.hid hR
      clear hR
      go_loopw [5] (fun i wr => ∃ b : Nat, b ≤ min 16 p ∧ i = .int .i64 ((b : Int) + 1) ∧ Sep w [ient 3 out (outAt p (bmin xs p R (4 + gi R 0) b) R)] wr) (fun i _ => 17 - (intOf i).toNat)
      case atStart => exact ⟨0, Nat.zero_le _, rfl, S3⟩
      case round =>
        clear S3
        obtain ⟨b, hb, rfl, S⟩ := hrel
        have bb := bmin_bd (xs := xs) (p := p) (rest := R) (m := 4 + gi R 0) (by omega) (fun i => (HRB.out i).1) b
        by_cases hlt2 : b < min 16 p
        · have hd : decide ((b : Int) + 1 ≤ min 16 (p : Int)) = true := decide_eq_true (by omega)
          go_wp2_with (first | refine r_min rfl rfl rfl rfl ?_)
          have HM := Lib.hid (show bmin xs p R (4 + gi R 0) (b + 1) = kmin R (bmin xs p R (4 + gi R 0) b) (matchLen xs p ((b : Int) + 1) - 1) from rfl)
          generalize hm : bmin xs p R (4 + gi R 0) b = m at *
          clear hm
          have bm := matchLen_le xs p ((b : Int) + 1)
          have bl := matchLen_len (xs := xs) (back := (b : Int) + 1) (p := (p : Int)) (by omega)
          generalize hL : matchLen xs p ((b : Int) + 1) = M at *
          have HL' := Lib.hid hL
          clear hL
          go_loopw [6] (fun i wr => ∃ j : Nat, j ≤ M - 1 ∧ i = .int .i64 ((j : Int) + 2) ∧ Sep w [ient 3 out (outAt p (kmin R m j) R)] wr) (fun i _ => 12 - (intOf i).toNat)
          case atStart => exact ⟨0, Nat.zero_le _, rfl, S⟩
          case round =>
            clear S
            obtain ⟨j, hj, rfl, S⟩ := hrel
            have kb := kmin_bd (rest := R) (m := m) bb.1 (fun i => (HRB.out i).1) j
            have l2 : (outAt p (kmin R m j) R).length ≤ p + r + 2 ∧ p + r + 2 ≤ (outAt p (kmin R m j) R).length := by have := HL.out (kmin R m j); omega
            by_cases hlt3 : j < M - 1
            · have g1 := outAt_here p (kmin R m j) R
              have g2 : gi (outAt p (kmin R m j) R) ((p : Int) + ((j : Int) + 2)) = gi R ((j : Int) + 1) := by
                have := outAt_later p (kmin R m j) R ((j : Int) + 1) (by omega)
                rw [← this]; congr 1
              have b2 := HRB.out ((j : Int) + 1)
              have b3 : 0 ≤ gi (outAt p (kmin R m j) R) ((p : Int) + ((j : Int) + 2)) ∧ gi (outAt p (kmin R m j) R) ((p : Int) + ((j : Int) + 2)) ≤ 4 * r := by rw [g2]; exact b2
              have G1 := Lib.hid g1
              have G2 := Lib.hid g2
              clear g1 g2
              have HK := Lib.hid (show kmin R m (j + 1) = min (kmin R m j) (8 + gi R ((j : Int) + 1)) from rfl)
              go_wp2_with (first | (go_at_call 38; refine (matchLong_c (Sep.ints S hx) (by omega) (by omega) (by omega) (by omega)).mono ?_; rintro _ w1 ⟨rfl, hb'⟩; rw [HL'.out]; have S2 := S.ext hb'; clear hb' S))
              refine wp_region_tail 15 (by kernel_rfl) (by kernel_rfl) ?_
              simp only [List.take_succ_cons, List.take_zero, List.drop_succ_cons, List.drop_zero]
              (repeat (first | go_big_quiet_skip | (refine q_index rfl rfl st_int rfl rfl (by first | exact Ints.rd (by assumption) | exact Acc.ints (Sep.a0 (by assumption)) | exact Acc.ints (Sep.a1 (by assumption)) | exact Acc.ints (Sep.a2 (by assumption))) (by omega) (by omega) ?_; simp only [Act.put, Act.eval, List.setIfInBounds_toArray, List.set_cons_succ, List.set_cons_zero, Array.getD_eq_getD_getElem?, List.getElem?_toArray, List.getElem?_cons_succ, List.getElem?_cons_zero, Option.getD_some]) | (refine q_loadIntC rfl (by first | exact same_below _ | exact drew_below _) rfl t_int rfl (by first | exact Ints.rdQ (by assumption) | exact Ints.rdSQ (by assumption) (by assumption) | exact Acc.intsQ (Sep.a0 (by assumption)) | exact Acc.intsQ (Sep.a1 (by assumption)) | exact Acc.intsQ (Sep.a2 (by assumption))) (by omega) (by omega) ?_; simp only [Act.put, Act.eval, List.setIfInBounds_toArray, List.set_cons_succ, List.set_cons_zero, Array.getD_eq_getD_getElem?, List.getElem?_toArray, List.getElem?_cons_succ, List.getElem?_cons_zero, Option.getD_some]) | (refine q_len rfl rfl st_int rfl (by first | exact Ints.rd (by assumption) | exact Acc.ints (Sep.a0 (by assumption)) | exact Acc.ints (Sep.a1 (by assumption)) | exact Acc.ints (Sep.a2 (by assumption))) ?_; simp only [Act.put, Act.eval, List.setIfInBounds_toArray, List.set_cons_succ, List.set_cons_zero, Array.getD_eq_getD_getElem?, List.getElem?_toArray, List.getElem?_cons_succ, List.getElem?_cons_zero, Option.getD_some]) | (refine q_field rfl rfl (by first | exact fd_tok0 | exact fd_tok1 | exact fd_tok2) rfl (Acc.all (by first | exact Sep.a0 (by assumption) | exact Sep.a1 (by assumption) | exact Sep.a2 (by assumption) | exact Sep.a3 (by assumption)) (by simp)) ?_; simp only [Act.put, Act.eval, List.setIfInBounds_toArray, List.set_cons_succ, List.set_cons_zero, Array.getD_eq_getD_getElem?, List.getElem?_toArray, List.getElem?_cons_succ, List.getElem?_cons_zero, Option.getD_some]) | (refine q_load1C rfl (by first | exact same_below _ | exact drew_below _) rfl t_int rfl (fun _ hb => Acc.adr1 (Acc.ext (by first | exact Sep.a0 (by assumption) | exact Sep.a1 (by assumption) | exact Sep.a2 (by assumption) | exact Sep.a3 (by assumption)) hb) _ (by rfl)) rfl ?_; simp only [Act.put, Act.eval, List.setIfInBounds_toArray, List.set_cons_succ, List.set_cons_zero, Array.getD_eq_getD_getElem?, List.getElem?_toArray, List.getElem?_cons_succ, List.getElem?_cons_zero, Option.getD_some]) | (refine q_loadAggC rfl (by first | exact same_below _ | exact drew_below _) rfl tk_tok rfl (fun _ hb => Acc.all (Acc.ext (by first | exact Sep.a0 (by assumption) | exact Sep.a1 (by assumption) | exact Sep.a2 (by assumption) | exact Sep.a3 (by assumption)) hb) (by simp)) rfl ?_; simp only [Act.put, Act.eval, List.setIfInBounds_toArray, List.set_cons_succ, List.set_cons_zero, Array.getD_eq_getD_getElem?, List.getElem?_toArray, List.getElem?_cons_succ, List.getElem?_cons_zero, Option.getD_some]) | ((first | refine q_move rfl rfl rfl ?_ | refine q_assign rfl rfl rfl ?_ | refine q_pickT rfl rfl rfl rfl ?_ | refine q_pickF rfl rfl rfl rfl ?_ | refine q_lss rfl rfl rfl rfl (by first | assumption | exact decide_eq_true (by omega) | exact decide_eq_false (by omega) | rfl) ?_ | refine q_leq rfl rfl rfl rfl (by first | assumption | exact decide_eq_true (by omega) | exact decide_eq_false (by omega) | rfl) ?_ | refine q_gtr rfl rfl rfl rfl (by first | assumption | exact decide_eq_true (by omega) | exact decide_eq_false (by omega) | rfl) ?_ | refine q_geq rfl rfl rfl rfl (by first | assumption | exact decide_eq_true (by omega) | exact decide_eq_false (by omega) | rfl) ?_ | refine q_eql rfl rfl rfl rfl (by first | assumption | exact beq_iff_eq.2 (by omega) | exact beq_eq_false_iff_ne.2 (by omega) | rfl) ?_ | refine q_neq rfl rfl rfl rfl (by first | assumption | (rw [bne_iff_ne]; omega) | (rw [bne_eq_false_iff_eq]; omega) | rfl) ?_ | refine q_add rfl rfl rfl rfl (by omega) ?_ | refine q_sub rfl rfl rfl rfl (by omega) ?_ | refine q_mul rfl rfl rfl rfl (by omega) ?_ | refine q_min rfl rfl rfl rfl ?_ | refine q_max rfl rfl rfl rfl ?_ | refine q_not rfl rfl rfl rfl ?_); simp only [Act.put, Act.eval, List.setIfInBounds_toArray, List.set_cons_succ, List.set_cons_zero, Array.getD_eq_getD_getElem?, List.getElem?_toArray, List.getElem?_cons_succ, List.getElem?_cons_zero, Option.getD_some]) | (go_big_quiet_want; go_big_quiet_op; go_big_quiet_on)))
              refine wpQuiet_nil ?_
              have S3 := S2.drew
              clear S2
              go_wp2_with (first | ((first | refine r_storeInt rfl rfl sz_int rfl rfl S3.a0 (by omega) (by omega) ?_ | refine r_storeIntN rfl rfl sz_int rfl rfl S3.a0 (by omega) ?_); intro w4 S4))
              go_roundw
              case rel => exact ⟨j + 1, by omega, by go_num, by
                rw [HK.out]
                rw [G1.out, G2.out] at S4
                simpa [outAt_set] using S4⟩
              case measure => first | (simp [intOf]; done) | (simp [intOf]; omega)
            · go_wp2_with (first | (go_at_call 38; refine (matchLong_c (Sep.ints S hx) (by omega) (by omega) (by omega) (by omega)).mono ?_; rintro _ w1 ⟨rfl, hb'⟩; rw [HL'.out]; have S2 := S.ext hb'; clear hb' S))
              have HJ : j = M - 1 := by omega
              go_roundw
              case rel => exact ⟨b + 1, by omega, by go_num, by rw [HM.out]; rw [HJ] at S2; exact S2⟩
              case measure => first | (simp [intOf]; done) | (simp [intOf]; omega)
        · go_wp2_with (first | refine r_min rfl rfl rfl rfl ?_)
          have HB : b = min 16 p := by omega
          go_roundw
          case rel => exact ⟨r + 1, by omega, by go_num, by
            rw [show xs.length - (r + 1) = p by omega, ← HS.out]
            simp only [stepCost]
            rw [← HB]
            exact S⟩
          case measure => first | (simp [intOf]; done) | (simp [intOf]; omega)
    · go_wp2
      go_ret
      have e : r = xs.length := by omega
      rw [e] at S
      exact ⟨_, rfl, by simpa using S⟩
end Go.Proofs.Ytjbedonncjppfaa
