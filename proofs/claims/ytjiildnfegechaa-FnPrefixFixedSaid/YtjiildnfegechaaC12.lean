/-
  Contracts and a law: what counts cost with lengths of codes is the reference's.
-/
import Derived.Test.YtjiildnfegechaaC2
import Derived.Test.YtjiildnfegechaaPure4
namespace Go.Proofs.Ytjiildnfegechaa
set_option linter.unusedVariables false
set_option linter.unusedSimpArgs false
set_option linter.unnecessarySimpa false
open Go.RowKit

set_option maxHeartbeats 2000000 in
theorem sLengthsCost_c {v u : Value} {xs ys : List Int} {w : World} (hx : Ints w v xs) (hy : Ints w u ys) :
    Calls Try.prog 26 #[v, u] w fun e w' => e = .returned (.int .i64 (lengthsCost xs ys)) ∧ Below w.heap.size w w' := by
  have S := Sep.refl w
  cases hc : countsOk xs with
  | false =>
    have HO := Lib.hid (show lengthsCost xs ys = -1 by simp [lengthsCost, hc])
    go_enter Try.func26, Try.ntmps26
    go_wp2_with (first | (go_at_call 32; refine (sCountsValid_c hx).mono ?_; rintro _ w4 ⟨rfl, rfl⟩))
    go_ret
    exact ⟨ret_int HO.out.symm, S.below⟩
  | true =>
    cases hv : lengthsValid ys with
    | false =>
      have HO := Lib.hid (show lengthsCost xs ys = -1 by simp [lengthsCost, hv])
      go_enter Try.func26, Try.ntmps26
      go_wp2_with (first | (go_at_call 32; refine (sCountsValid_c hx).mono ?_; rintro _ w4 ⟨rfl, rfl⟩) | (go_at_call 47; refine (sLengthsValid_c hy).mono ?_; rintro _ w4 ⟨rfl, rfl⟩))
      go_ret
      exact ⟨ret_int HO.out.symm, S.below⟩
    | true =>
      have HO := Lib.hid (show lengthsCost xs ys = (lcost xs ys xs.length).getD (-1) by simp [lengthsCost, hc, hv])
      obtain ⟨lx, ax⟩ := countsOk_iff.1 hc
      have hlo : lengthsOk ys = true := by
        cases h : lengthsOk ys with
        | true => rfl
        | false => simp [lengthsValid, kraftOf, h, inB] at hv
      obtain ⟨ly, ay⟩ := lengthsOk_iff.1 hlo
      clear hlo
      have LX := Lib.hid lx
      have lx' : xs.length ≤ 8 ∧ 8 ≤ xs.length := by omega
      have ly' : ys.length ≤ 8 ∧ 8 ≤ ys.length := by omega
      clear lx ly
      go_enter Try.func26, Try.ntmps26
      go_wp2_with (first | (go_at_call 32; refine (sCountsValid_c hx).mono ?_; rintro _ w4 ⟨rfl, rfl⟩) | (go_at_call 47; refine (sLengthsValid_c hy).mono ?_; rintro _ w4 ⟨rfl, rfl⟩))
      go_loopw [5, 6] (fun m i wr => ∃ (k : Nat) (n : Int), k ≤ 8 ∧ i = .int .i64 k ∧ m = .int .i64 n ∧ lcost xs ys k = some n ∧ 0 ≤ n ∧ n ≤ 7992 * k ∧ Sep w [] wr) (fun _ i _ => 8 - (intOf i).toNat)
      case atStart => exact ⟨0, 0, by omega, rfl, rfl, rfl, by omega, by omega, S⟩
      case round =>
        clear S
        obtain ⟨k, n, hk, rfl, rfl, H, hn0, hn1, S⟩ := hrel
        have HH := Lib.hid H; clear H
        by_cases hlt : k < xs.length
        · have c1 := allIn_gi ax (i := (k : Int)) (by omega) (by omega)
          have l1 := allIn_gi ay (i := (k : Int)) (by omega) (by omega)
          have pb := mul_bd c1 l1
          by_cases hg : 0 < gi xs (k : Int)
          · have hd1 : decide (0 < gi xs (k : Int)) = true := decide_eq_true hg
            by_cases hz : gi ys (k : Int) = 0
            · have hd2 : (gi ys (k : Int) == 0) = true := beq_iff_eq.2 hz
              have HS := Lib.hid (lcost_stop HH.out ⟨hg, hz⟩ hlt)
              clear hz hg
              go_wp2_with (first | refine r_len rfl rfl st_int rfl (by first | exact Ints.rd (by assumption) | exact Acc.ints (Sep.a0 (by assumption)) | exact Acc.ints (Sep.a1 (by assumption)) | exact Acc.ints (Sep.a2 (by assumption))) ?_ | refine r_index rfl rfl st_int rfl rfl (by first | exact Ints.rd (by assumption) | exact Acc.ints (Sep.a0 (by assumption)) | exact Acc.ints (Sep.a1 (by assumption)) | exact Acc.ints (Sep.a2 (by assumption))) (by omega) (by omega) ?_ | (first | refine r_loadInt rfl rfl t_int rfl (by first | exact Ints.rd (by assumption) | exact Ints.rdS (by assumption) (by assumption) | exact Acc.ints (Sep.a0 (by assumption)) | exact Acc.ints (Sep.a1 (by assumption)) | exact Acc.ints (Sep.a2 (by assumption))) (by omega) (by omega) ?_ | refine r_loadIntN rfl rfl t_int rfl (by first | exact Ints.rd (by assumption) | exact Ints.rdS (by assumption) (by assumption) | exact Acc.ints (Sep.a0 (by assumption)) | exact Acc.ints (Sep.a1 (by assumption)) | exact Acc.ints (Sep.a2 (by assumption))) (by omega) ?_))
              go_ret
              exact ⟨ret_int (by rw [HO.out, HS.out]; rfl), S.below⟩
            · have hd2 : (gi ys (k : Int) == 0) = false := beq_eq_false_iff_ne.2 hz
              have HS := Lib.hid (lcost_step HH.out (fun h => hz h.2))
              clear hz hg
              go_wp2_with (first | refine r_len rfl rfl st_int rfl (by first | exact Ints.rd (by assumption) | exact Acc.ints (Sep.a0 (by assumption)) | exact Acc.ints (Sep.a1 (by assumption)) | exact Acc.ints (Sep.a2 (by assumption))) ?_ | refine r_index rfl rfl st_int rfl rfl (by first | exact Ints.rd (by assumption) | exact Acc.ints (Sep.a0 (by assumption)) | exact Acc.ints (Sep.a1 (by assumption)) | exact Acc.ints (Sep.a2 (by assumption))) (by omega) (by omega) ?_ | (first | refine r_loadInt rfl rfl t_int rfl (by first | exact Ints.rd (by assumption) | exact Ints.rdS (by assumption) (by assumption) | exact Acc.ints (Sep.a0 (by assumption)) | exact Acc.ints (Sep.a1 (by assumption)) | exact Acc.ints (Sep.a2 (by assumption))) (by omega) (by omega) ?_ | refine r_loadIntN rfl rfl t_int rfl (by first | exact Ints.rd (by assumption) | exact Ints.rdS (by assumption) (by assumption) | exact Acc.ints (Sep.a0 (by assumption)) | exact Acc.ints (Sep.a1 (by assumption)) | exact Acc.ints (Sep.a2 (by assumption))) (by omega) ?_))
              refine wp_region_below (by kernel_rfl) (by kernel_rfl) ?_
              (repeat (first | go_big_quiet_skip | (refine q_index rfl rfl st_int rfl rfl (by first | exact Ints.rd (by assumption) | exact Acc.ints (Sep.a0 (by assumption)) | exact Acc.ints (Sep.a1 (by assumption)) | exact Acc.ints (Sep.a2 (by assumption))) (by omega) (by omega) ?_; simp only [Act.put, Act.eval, List.setIfInBounds_toArray, List.set_cons_succ, List.set_cons_zero, Array.getD_eq_getD_getElem?, List.getElem?_toArray, List.getElem?_cons_succ, List.getElem?_cons_zero, Option.getD_some]) | (refine q_loadIntC rfl (by first | exact same_below _ | exact drew_below _) rfl t_int rfl (by first | exact Ints.rdQ (by assumption) | exact Ints.rdSQ (by assumption) (by assumption) | exact Acc.intsQ (Sep.a0 (by assumption)) | exact Acc.intsQ (Sep.a1 (by assumption)) | exact Acc.intsQ (Sep.a2 (by assumption))) (by omega) (by omega) ?_; simp only [Act.put, Act.eval, List.setIfInBounds_toArray, List.set_cons_succ, List.set_cons_zero, Array.getD_eq_getD_getElem?, List.getElem?_toArray, List.getElem?_cons_succ, List.getElem?_cons_zero, Option.getD_some]) | (refine q_len rfl rfl st_int rfl (by first | exact Ints.rd (by assumption) | exact Acc.ints (Sep.a0 (by assumption)) | exact Acc.ints (Sep.a1 (by assumption)) | exact Acc.ints (Sep.a2 (by assumption))) ?_; simp only [Act.put, Act.eval, List.setIfInBounds_toArray, List.set_cons_succ, List.set_cons_zero, Array.getD_eq_getD_getElem?, List.getElem?_toArray, List.getElem?_cons_succ, List.getElem?_cons_zero, Option.getD_some]) | (refine q_field rfl rfl (by first | exact fd_tok0 | exact fd_tok1 | exact fd_tok2) rfl (Acc.all (by first | exact Sep.a0 (by assumption) | exact Sep.a1 (by assumption) | exact Sep.a2 (by assumption) | exact Sep.a3 (by assumption)) (by simp)) ?_; simp only [Act.put, Act.eval, List.setIfInBounds_toArray, List.set_cons_succ, List.set_cons_zero, Array.getD_eq_getD_getElem?, List.getElem?_toArray, List.getElem?_cons_succ, List.getElem?_cons_zero, Option.getD_some]) | (refine q_load1C rfl (by first | exact same_below _ | exact drew_below _) rfl t_int rfl (fun _ hb => Acc.adr1 (Acc.ext (by first | exact Sep.a0 (by assumption) | exact Sep.a1 (by assumption) | exact Sep.a2 (by assumption) | exact Sep.a3 (by assumption)) hb) _ (by rfl)) rfl ?_; simp only [Act.put, Act.eval, List.setIfInBounds_toArray, List.set_cons_succ, List.set_cons_zero, Array.getD_eq_getD_getElem?, List.getElem?_toArray, List.getElem?_cons_succ, List.getElem?_cons_zero, Option.getD_some]) | (refine q_loadAggC rfl (by first | exact same_below _ | exact drew_below _) rfl tk_tok rfl (fun _ hb => Acc.all (Acc.ext (by first | exact Sep.a0 (by assumption) | exact Sep.a1 (by assumption) | exact Sep.a2 (by assumption) | exact Sep.a3 (by assumption)) hb) (by simp)) rfl ?_; simp only [Act.put, Act.eval, List.setIfInBounds_toArray, List.set_cons_succ, List.set_cons_zero, Array.getD_eq_getD_getElem?, List.getElem?_toArray, List.getElem?_cons_succ, List.getElem?_cons_zero, Option.getD_some]) | ((first | refine q_move rfl rfl rfl ?_ | refine q_assign rfl rfl rfl ?_ | refine q_pickT rfl rfl rfl rfl ?_ | refine q_pickF rfl rfl rfl rfl ?_ | refine q_lss rfl rfl rfl rfl (by first | assumption | exact decide_eq_true (by omega) | exact decide_eq_false (by omega) | rfl) ?_ | refine q_leq rfl rfl rfl rfl (by first | assumption | exact decide_eq_true (by omega) | exact decide_eq_false (by omega) | rfl) ?_ | refine q_gtr rfl rfl rfl rfl (by first | assumption | exact decide_eq_true (by omega) | exact decide_eq_false (by omega) | rfl) ?_ | refine q_geq rfl rfl rfl rfl (by first | assumption | exact decide_eq_true (by omega) | exact decide_eq_false (by omega) | rfl) ?_ | refine q_eql rfl rfl rfl rfl (by first | assumption | exact beq_iff_eq.2 (by omega) | exact beq_eq_false_iff_ne.2 (by omega) | rfl) ?_ | refine q_neq rfl rfl rfl rfl (by first | assumption | (rw [bne_iff_ne]; omega) | (rw [bne_eq_false_iff_eq]; omega) | rfl) ?_ | refine q_add rfl rfl rfl rfl (by omega) ?_ | refine q_sub rfl rfl rfl rfl (by omega) ?_ | refine q_mul rfl rfl rfl rfl (by omega) ?_ | refine q_min rfl rfl rfl rfl ?_ | refine q_max rfl rfl rfl rfl ?_ | refine q_not rfl rfl rfl rfl ?_); simp only [Act.put, Act.eval, List.setIfInBounds_toArray, List.set_cons_succ, List.set_cons_zero, Array.getD_eq_getD_getElem?, List.getElem?_toArray, List.getElem?_cons_succ, List.getElem?_cons_zero, Option.getD_some]) | (go_big_quiet_want; go_big_quiet_op; go_big_quiet_on)))
              (refine wpQuiet_nil ?_; intro w1 hb)
              go_wp2
              go_roundw
              case rel => exact ⟨k + 1, n + gi xs (k : Int) * gi ys (k : Int), by omega, by go_num, rfl, HS.out, by omega, by omega, S.ext hb⟩
              case measure => simp [intOf]; omega
          · have hd1 : decide (0 < gi xs (k : Int)) = false := decide_eq_false hg
            have HS := Lib.hid (lcost_step HH.out (fun h => hg h.1))
            clear hg
            go_wp2_with (first | refine r_len rfl rfl st_int rfl (by first | exact Ints.rd (by assumption) | exact Acc.ints (Sep.a0 (by assumption)) | exact Acc.ints (Sep.a1 (by assumption)) | exact Acc.ints (Sep.a2 (by assumption))) ?_ | refine r_index rfl rfl st_int rfl rfl (by first | exact Ints.rd (by assumption) | exact Acc.ints (Sep.a0 (by assumption)) | exact Acc.ints (Sep.a1 (by assumption)) | exact Acc.ints (Sep.a2 (by assumption))) (by omega) (by omega) ?_ | (first | refine r_loadInt rfl rfl t_int rfl (by first | exact Ints.rd (by assumption) | exact Ints.rdS (by assumption) (by assumption) | exact Acc.ints (Sep.a0 (by assumption)) | exact Acc.ints (Sep.a1 (by assumption)) | exact Acc.ints (Sep.a2 (by assumption))) (by omega) (by omega) ?_ | refine r_loadIntN rfl rfl t_int rfl (by first | exact Ints.rd (by assumption) | exact Ints.rdS (by assumption) (by assumption) | exact Acc.ints (Sep.a0 (by assumption)) | exact Acc.ints (Sep.a1 (by assumption)) | exact Acc.ints (Sep.a2 (by assumption))) (by omega) ?_))
            refine wp_region_below (by kernel_rfl) (by kernel_rfl) ?_
            (repeat (first | go_big_quiet_skip | (refine q_index rfl rfl st_int rfl rfl (by first | exact Ints.rd (by assumption) | exact Acc.ints (Sep.a0 (by assumption)) | exact Acc.ints (Sep.a1 (by assumption)) | exact Acc.ints (Sep.a2 (by assumption))) (by omega) (by omega) ?_; simp only [Act.put, Act.eval, List.setIfInBounds_toArray, List.set_cons_succ, List.set_cons_zero, Array.getD_eq_getD_getElem?, List.getElem?_toArray, List.getElem?_cons_succ, List.getElem?_cons_zero, Option.getD_some]) | (refine q_loadIntC rfl (by first | exact same_below _ | exact drew_below _) rfl t_int rfl (by first | exact Ints.rdQ (by assumption) | exact Ints.rdSQ (by assumption) (by assumption) | exact Acc.intsQ (Sep.a0 (by assumption)) | exact Acc.intsQ (Sep.a1 (by assumption)) | exact Acc.intsQ (Sep.a2 (by assumption))) (by omega) (by omega) ?_; simp only [Act.put, Act.eval, List.setIfInBounds_toArray, List.set_cons_succ, List.set_cons_zero, Array.getD_eq_getD_getElem?, List.getElem?_toArray, List.getElem?_cons_succ, List.getElem?_cons_zero, Option.getD_some]) | (refine q_len rfl rfl st_int rfl (by first | exact Ints.rd (by assumption) | exact Acc.ints (Sep.a0 (by assumption)) | exact Acc.ints (Sep.a1 (by assumption)) | exact Acc.ints (Sep.a2 (by assumption))) ?_; simp only [Act.put, Act.eval, List.setIfInBounds_toArray, List.set_cons_succ, List.set_cons_zero, Array.getD_eq_getD_getElem?, List.getElem?_toArray, List.getElem?_cons_succ, List.getElem?_cons_zero, Option.getD_some]) | (refine q_field rfl rfl (by first | exact fd_tok0 | exact fd_tok1 | exact fd_tok2) rfl (Acc.all (by first | exact Sep.a0 (by assumption) | exact Sep.a1 (by assumption) | exact Sep.a2 (by assumption) | exact Sep.a3 (by assumption)) (by simp)) ?_; simp only [Act.put, Act.eval, List.setIfInBounds_toArray, List.set_cons_succ, List.set_cons_zero, Array.getD_eq_getD_getElem?, List.getElem?_toArray, List.getElem?_cons_succ, List.getElem?_cons_zero, Option.getD_some]) | (refine q_load1C rfl (by first | exact same_below _ | exact drew_below _) rfl t_int rfl (fun _ hb => Acc.adr1 (Acc.ext (by first | exact Sep.a0 (by assumption) | exact Sep.a1 (by assumption) | exact Sep.a2 (by assumption) | exact Sep.a3 (by assumption)) hb) _ (by rfl)) rfl ?_; simp only [Act.put, Act.eval, List.setIfInBounds_toArray, List.set_cons_succ, List.set_cons_zero, Array.getD_eq_getD_getElem?, List.getElem?_toArray, List.getElem?_cons_succ, List.getElem?_cons_zero, Option.getD_some]) | (refine q_loadAggC rfl (by first | exact same_below _ | exact drew_below _) rfl tk_tok rfl (fun _ hb => Acc.all (Acc.ext (by first | exact Sep.a0 (by assumption) | exact Sep.a1 (by assumption) | exact Sep.a2 (by assumption) | exact Sep.a3 (by assumption)) hb) (by simp)) rfl ?_; simp only [Act.put, Act.eval, List.setIfInBounds_toArray, List.set_cons_succ, List.set_cons_zero, Array.getD_eq_getD_getElem?, List.getElem?_toArray, List.getElem?_cons_succ, List.getElem?_cons_zero, Option.getD_some]) | ((first | refine q_move rfl rfl rfl ?_ | refine q_assign rfl rfl rfl ?_ | refine q_pickT rfl rfl rfl rfl ?_ | refine q_pickF rfl rfl rfl rfl ?_ | refine q_lss rfl rfl rfl rfl (by first | assumption | exact decide_eq_true (by omega) | exact decide_eq_false (by omega) | rfl) ?_ | refine q_leq rfl rfl rfl rfl (by first | assumption | exact decide_eq_true (by omega) | exact decide_eq_false (by omega) | rfl) ?_ | refine q_gtr rfl rfl rfl rfl (by first | assumption | exact decide_eq_true (by omega) | exact decide_eq_false (by omega) | rfl) ?_ | refine q_geq rfl rfl rfl rfl (by first | assumption | exact decide_eq_true (by omega) | exact decide_eq_false (by omega) | rfl) ?_ | refine q_eql rfl rfl rfl rfl (by first | assumption | exact beq_iff_eq.2 (by omega) | exact beq_eq_false_iff_ne.2 (by omega) | rfl) ?_ | refine q_neq rfl rfl rfl rfl (by first | assumption | (rw [bne_iff_ne]; omega) | (rw [bne_eq_false_iff_eq]; omega) | rfl) ?_ | refine q_add rfl rfl rfl rfl (by omega) ?_ | refine q_sub rfl rfl rfl rfl (by omega) ?_ | refine q_mul rfl rfl rfl rfl (by omega) ?_ | refine q_min rfl rfl rfl rfl ?_ | refine q_max rfl rfl rfl rfl ?_ | refine q_not rfl rfl rfl rfl ?_); simp only [Act.put, Act.eval, List.setIfInBounds_toArray, List.set_cons_succ, List.set_cons_zero, Array.getD_eq_getD_getElem?, List.getElem?_toArray, List.getElem?_cons_succ, List.getElem?_cons_zero, Option.getD_some]) | (go_big_quiet_want; go_big_quiet_op; go_big_quiet_on)))
            (refine wpQuiet_nil ?_; intro w1 hb)
            go_wp2
            go_roundw
            case rel => exact ⟨k + 1, n + gi xs (k : Int) * gi ys (k : Int), by omega, by go_num, rfl, HS.out, by omega, by omega, S.ext hb⟩
            case measure => simp [intOf]; omega
        · go_wp2_with (first | refine r_len rfl rfl st_int rfl (by first | exact Ints.rd (by assumption) | exact Acc.ints (Sep.a0 (by assumption)) | exact Acc.ints (Sep.a1 (by assumption)) | exact Acc.ints (Sep.a2 (by assumption))) ?_)
          go_ret
          exact ⟨ret_int (by rw [HO.out, LX.out, ← show k = 8 by omega, HH.out]; rfl), S.below⟩
set_option maxHeartbeats 2000000 in
theorem LengthsCost_c {v u : Value} {xs ys : List Int} {w : World} (hx : Ints w v xs) (hy : Ints w u ys) :
    Calls Try.prog 25 #[v, u] w fun e w' => e = .returned (.int .i64 (lengthsCost xs ys)) ∧ Below w.heap.size w w' := by
  have S := Sep.refl w
  cases hc : countsOk xs with
  | false =>
    have HO := Lib.hid (show lengthsCost xs ys = -1 by simp [lengthsCost, hc])
    go_enter Try.func25, Try.ntmps25
    go_wp2_with (first | (go_at_call 38; refine (CountsValid_c hx).mono ?_; rintro _ w4 ⟨rfl, rfl⟩))
    go_ret
    exact ⟨ret_int HO.out.symm, S.below⟩
  | true =>
    cases hv : lengthsValid ys with
    | false =>
      have HO := Lib.hid (show lengthsCost xs ys = -1 by simp [lengthsCost, hv])
      go_enter Try.func25, Try.ntmps25
      go_wp2_with (first | (go_at_call 38; refine (CountsValid_c hx).mono ?_; rintro _ w4 ⟨rfl, rfl⟩) | (go_at_call 23; refine (LengthsValid_c hy).mono ?_; rintro _ w4 ⟨rfl, rfl⟩))
      go_ret
      exact ⟨ret_int HO.out.symm, S.below⟩
    | true =>
      have HO := Lib.hid (show lengthsCost xs ys = (lcost xs ys xs.length).getD (-1) by simp [lengthsCost, hc, hv])
      obtain ⟨lx, ax⟩ := countsOk_iff.1 hc
      have hlo : lengthsOk ys = true := by
        cases h : lengthsOk ys with
        | true => rfl
        | false => simp [lengthsValid, kraftOf, h, inB] at hv
      obtain ⟨ly, ay⟩ := lengthsOk_iff.1 hlo
      clear hlo
      have LX := Lib.hid lx
      have lx' : xs.length ≤ 8 ∧ 8 ≤ xs.length := by omega
      have ly' : ys.length ≤ 8 ∧ 8 ≤ ys.length := by omega
      clear lx ly
      go_enter Try.func25, Try.ntmps25
      go_wp2_with (first | (go_at_call 38; refine (CountsValid_c hx).mono ?_; rintro _ w4 ⟨rfl, rfl⟩) | (go_at_call 23; refine (LengthsValid_c hy).mono ?_; rintro _ w4 ⟨rfl, rfl⟩) | refine r_len rfl rfl st_int rfl (by first | exact Ints.rd (by assumption) | exact Acc.ints (Sep.a0 (by assumption)) | exact Acc.ints (Sep.a1 (by assumption)) | exact Acc.ints (Sep.a2 (by assumption))) ?_)
      go_loopw [5, 18] (fun m i wr => ∃ (k : Nat) (n : Int), k ≤ 8 ∧ i = .int .i64 k ∧ m = .int .i64 n ∧ lcost xs ys k = some n ∧ 0 ≤ n ∧ n ≤ 7992 * k ∧ Sep w [] wr) (fun _ i _ => 8 - (intOf i).toNat)
      case atStart => exact ⟨0, 0, by omega, rfl, rfl, rfl, by omega, by omega, S⟩
      case round =>
        clear S
        obtain ⟨k, n, hk, rfl, rfl, H, hn0, hn1, S⟩ := hrel
        have HH := Lib.hid H; clear H
        by_cases hlt : k < xs.length
        · have c1 := allIn_gi ax (i := (k : Int)) (by omega) (by omega)
          have l1 := allIn_gi ay (i := (k : Int)) (by omega) (by omega)
          have pb := mul_bd c1 l1
          by_cases hg : 0 < gi xs (k : Int)
          · have hd1 : decide (0 < gi xs (k : Int)) = true := decide_eq_true hg
            by_cases hz : gi ys (k : Int) = 0
            · have hd2 : (gi ys (k : Int) == 0) = true := beq_iff_eq.2 hz
              have HS := Lib.hid (lcost_stop HH.out ⟨hg, hz⟩ hlt)
              clear hz hg
              go_wp2_with (first | refine r_index rfl rfl st_int rfl rfl (by first | exact Ints.rd (by assumption) | exact Acc.ints (Sep.a0 (by assumption)) | exact Acc.ints (Sep.a1 (by assumption)) | exact Acc.ints (Sep.a2 (by assumption))) (by omega) (by omega) ?_ | (first | refine r_loadInt rfl rfl t_int rfl (by first | exact Ints.rd (by assumption) | exact Ints.rdS (by assumption) (by assumption) | exact Acc.ints (Sep.a0 (by assumption)) | exact Acc.ints (Sep.a1 (by assumption)) | exact Acc.ints (Sep.a2 (by assumption))) (by omega) (by omega) ?_ | refine r_loadIntN rfl rfl t_int rfl (by first | exact Ints.rd (by assumption) | exact Ints.rdS (by assumption) (by assumption) | exact Acc.ints (Sep.a0 (by assumption)) | exact Acc.ints (Sep.a1 (by assumption)) | exact Acc.ints (Sep.a2 (by assumption))) (by omega) ?_))
              go_ret
              exact ⟨ret_int (by rw [HO.out, HS.out]; rfl), S.below⟩
            · have hd2 : (gi ys (k : Int) == 0) = false := beq_eq_false_iff_ne.2 hz
              have HS := Lib.hid (lcost_step HH.out (fun h => hz h.2))
              clear hz hg
              go_wp2_with (first | refine r_index rfl rfl st_int rfl rfl (by first | exact Ints.rd (by assumption) | exact Acc.ints (Sep.a0 (by assumption)) | exact Acc.ints (Sep.a1 (by assumption)) | exact Acc.ints (Sep.a2 (by assumption))) (by omega) (by omega) ?_ | (first | refine r_loadInt rfl rfl t_int rfl (by first | exact Ints.rd (by assumption) | exact Ints.rdS (by assumption) (by assumption) | exact Acc.ints (Sep.a0 (by assumption)) | exact Acc.ints (Sep.a1 (by assumption)) | exact Acc.ints (Sep.a2 (by assumption))) (by omega) (by omega) ?_ | refine r_loadIntN rfl rfl t_int rfl (by first | exact Ints.rd (by assumption) | exact Ints.rdS (by assumption) (by assumption) | exact Acc.ints (Sep.a0 (by assumption)) | exact Acc.ints (Sep.a1 (by assumption)) | exact Acc.ints (Sep.a2 (by assumption))) (by omega) ?_))
              go_roundw
              case rel => exact ⟨k + 1, n + gi xs (k : Int) * gi ys (k : Int), by omega, by go_num, rfl, HS.out, by omega, by omega, S⟩
              case measure => simp [intOf]; omega
          · have hd1 : decide (0 < gi xs (k : Int)) = false := decide_eq_false hg
            have HS := Lib.hid (lcost_step HH.out (fun h => hg h.1))
            clear hg
            go_wp2_with (first | refine r_index rfl rfl st_int rfl rfl (by first | exact Ints.rd (by assumption) | exact Acc.ints (Sep.a0 (by assumption)) | exact Acc.ints (Sep.a1 (by assumption)) | exact Acc.ints (Sep.a2 (by assumption))) (by omega) (by omega) ?_ | (first | refine r_loadInt rfl rfl t_int rfl (by first | exact Ints.rd (by assumption) | exact Ints.rdS (by assumption) (by assumption) | exact Acc.ints (Sep.a0 (by assumption)) | exact Acc.ints (Sep.a1 (by assumption)) | exact Acc.ints (Sep.a2 (by assumption))) (by omega) (by omega) ?_ | refine r_loadIntN rfl rfl t_int rfl (by first | exact Ints.rd (by assumption) | exact Ints.rdS (by assumption) (by assumption) | exact Acc.ints (Sep.a0 (by assumption)) | exact Acc.ints (Sep.a1 (by assumption)) | exact Acc.ints (Sep.a2 (by assumption))) (by omega) ?_))
            go_roundw
            case rel => exact ⟨k + 1, n + gi xs (k : Int) * gi ys (k : Int), by omega, by go_num, rfl, HS.out, by omega, by omega, S⟩
            case measure => simp [intOf]; omega
        · go_wp2
          go_ret
          exact ⟨ret_int (by rw [HO.out, LX.out, ← show k = 8 by omega, HH.out]; rfl), S.below⟩
end Go.Proofs.Ytjiildnfegechaa
