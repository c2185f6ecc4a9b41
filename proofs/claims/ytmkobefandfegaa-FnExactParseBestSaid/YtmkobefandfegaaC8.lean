/-
  Contracts: tokens brought over and laid side by side.
-/
import Derived.Test.YtmkobefandfegaaC5
import Derived.Test.YtmkobefandfegaaRules6
namespace Go.Proofs.Ytmkobefandfegaa
set_option linter.unusedVariables false
set_option linter.unusedSimpArgs false
set_option linter.unnecessarySimpa false
open Go.RowKit

theorem toToken_c {t : Tok} {w : World} :
    Calls Try.prog 48 #[.agg (tcs t).toArray] w fun e w' => e = .returned (.agg (tcs t).toArray) ∧ Below w.heap.size w w' := by
  unfold tcs
  go_enter Try.func48, Try.ntmps48
  go_wp2
  refine bodyPost_ret (res_box (us := tcs t) (v := .pointer (some ⟨w.heap.size + 1, 0, none⟩)) rfl (elem_zero _).symm tk_tok ?A rfl) rfl ⟨rfl, ?B⟩
  case A =>
    rw [elem_zero]
    refine ⟨w.heap.size + 1, 0, rfl, fun j u hu => ?_⟩
    have hh : ∀ x y z : Obj, (((w.alloc x).alloc y).alloc z).heap[w.heap.size + 1]? = some y := by
      intro x y z
      show (((w.heap.push x).push y).push z)[w.heap.size + 1]? = some y
      have h1 : w.heap.size + 1 < ((w.heap.push x).push y).size := by simp
      have h2 : ((w.heap.push x).push y)[w.heap.size + 1]? = some y := by rw [show w.heap.size + 1 = (w.heap.push x).size by simp, Array.getElem?_push_size]
      rw [Array.getElem?_push, if_neg (by omega)]
      exact h2
    match j, hu with
    | 0, hu => simp [tcs] at hu; subst hu; simp only [World.cell?, hh]; rfl
    | 1, hu => simp [tcs] at hu; subst hu; simp only [World.cell?, hh]; rfl
    | 2, hu => simp [tcs] at hu; subst hu; simp only [World.cell?, hh]; rfl
    | j + 3, hu => simp [tcs] at hu
  case B => exact (((Below.refl w.heap.size w).alloc (Nat.le_refl _) _).alloc (by simp) _).alloc (by simp; try omega) _
theorem toTokenS_c {v : Value} {ts : List Tok} {w : World} (hx : Toks w v ts) :
    Calls Try.prog 17 #[v] w fun e w' => ∃ r, e = .returned r ∧ Sep w [tent 49 r ts] w' := by
  have hl := hx.1.2.1
  have S := Sep.refl w
  go_enter Try.func17, Try.ntmps17
  go_wp2_with (first | refine r_len rfl rfl st_ltok rfl (by first | exact Toks.rd (by assumption) | exact Acc.toks (Sep.a0 (by assumption)) | exact Acc.toks (Sep.a1 (by assumption)) | exact Acc.toks (Sep.a2 (by assumption))) ?_ | (refine r_makeTok rfl rfl st_tok rfl rfl (by omega) (by omega) S ?_; intro r w1 S1))
  go_loopw [4] (fun i wr => ∃ k : Nat, k ≤ ts.length ∧ i = .int .i64 k ∧ Sep w [tent 49 r (ts.take k ++ List.replicate (ts.length - k) ⟨0, 0, 0⟩)] wr) (fun i _ => ts.length - (intOf i).toNat)
  case atStart => exact ⟨0, Nat.zero_le _, rfl, by simpa using S1⟩
  case round =>
    clear S S1
    obtain ⟨k, hk, rfl, S⟩ := hrel
    have hx2 := S.toks hx
    by_cases hlt : k < ts.length
    · have H := Lib.hid (set_copyT hlt)
      have hl2 : k < (ts.take k ++ List.replicate (ts.length - k) (⟨0, 0, 0⟩ : Tok)).length := by simp; omega
      generalize ht : ts.getD k ⟨0, 0, 0⟩ = t at *
      have HT := Lib.hid ht; clear ht
      go_wp2_with (first | (refine r_len rfl rfl st_ltok rfl hx.1 ?_) | (refine r_index rfl rfl st_ltok rfl rfl hx.1 (by omega) (by omega) ?_) | (refine r_loadTokG rfl rfl tk_ltok rfl hx2.1 (by omega) HT ?_) | (go_at_call 48; refine toToken_c.mono ?_; rintro _ w2 ⟨rfl, hb⟩; have S2 := S.ext hb; clear hb) | (refine r_index rfl rfl st_tok rfl rfl S2.a0.toks (by omega) (by omega) ?_) | (refine r_storeTok (t := t) rfl rfl sz_tok rfl rfl S2.a0 (by omega) ?_; intro w3 S3))
      go_roundw
      case rel => exact ⟨k + 1, by omega, by go_num, by rw [← H.out]; exact S3⟩
      case measure => simp [intOf]; omega
    · go_wp2_with (first | (refine r_len rfl rfl st_ltok rfl hx.1 ?_))
      go_ret
      have e : ts.take k ++ List.replicate (ts.length - k) (⟨0, 0, 0⟩ : Tok) = ts := by rw [List.take_of_length_le (by omega), Nat.sub_eq_zero_of_le (by omega)]; simp
      rw [e] at S
      exact ⟨_, rfl, S⟩
theorem szTokenS_c {v : Value} {ts : List Tok} {w : World} (hx : Toks w v ts) (hn : ts.length ≤ 1048576) :
    Calls Try.prog 15 #[v, .int .i64 1048576] w fun e w' => e = .returned (.int .i64 (1048576 - ts.length)) ∧ w = w' := by
  have hd : decide ((1048576 : Int) - ts.length < 0) = false := decide_eq_false (by omega)
  go_enter Try.func15, Try.ntmps15
  go_wp2_with (first | refine r_len rfl rfl st_ltok rfl (by first | exact Toks.rd (by assumption) | exact Acc.toks (Sep.a0 (by assumption)) | exact Acc.toks (Sep.a1 (by assumption)) | exact Acc.toks (Sep.a2 (by assumption))) ?_)
  go_ret
  exact ⟨rfl, rfl⟩
theorem szTokenS_big {a : Option Addr} {len cap : Nat} {w : World} (h : 1048576 < len) (hm : len ≤ maxLen) :
    Calls Try.prog 15 #[.slice a len cap, .int .i64 1048576] w fun e w' => e = .returned (.int .i64 (-1)) ∧ w = w' := by
  have hm' : len ≤ 9223372036854775807 := Nat.le_trans hm (by decide)
  have hd : decide ((1048576 : Int) - len < 0) = true := decide_eq_true (by omega)
  go_enter Try.func15, Try.ntmps15
  go_wp2
  go_ret
  exact ⟨rfl, rfl⟩
theorem eqTokenS_c {v u : Value} {ts us : List Tok} {w : World} (hx : Toks w v ts) (hy : Toks w u us) :
    Calls Try.prog 19 #[v, u] w fun e w' => e = .returned (.bool (decide (ts = us))) ∧ Below w.heap.size w w' := by
  have hl := hx.1.2.1
  have hl' := hy.1.2.1
  by_cases hlen : (ts.length : Int) = us.length
  · have h1 : ((ts.length : Int) != us.length) = false := by simpa using hlen
    have hle : ts.length ≤ us.length ∧ us.length ≤ ts.length := by omega
    have HL := Lib.hid hlen; clear hlen
    have S := Sep.refl w
    go_enter Try.func19, Try.ntmps19
    go_wp2_with (first | (refine r_len rfl rfl st_tok rfl hx.1 ?_) | (refine r_len rfl rfl st_tok rfl hy.1 ?_))
    go_loopw [5] (fun i wr => ∃ k : Nat, k ≤ ts.length ∧ i = .int .i64 k ∧ ts.take k = us.take k ∧ Sep w [] wr) (fun i _ => ts.length - (intOf i).toNat)
    case atStart => exact ⟨0, Nat.zero_le _, rfl, rfl, S⟩
    case round =>
      clear S
      obtain ⟨k, hk, rfl, H, S⟩ := hrel
      have HH := Lib.hid H; clear H
      by_cases hlt : k < ts.length
      · have hlt' : k < us.length := by omega
        have hE := Lib.hid (fun he => toks_eq_succ hlt hlt' HH.out he)
        generalize ht : ts.getD k ⟨0, 0, 0⟩ = t at *
        have HT := Lib.hid ht; clear ht
        generalize hu : us.getD k ⟨0, 0, 0⟩ = s at *
        have HU := Lib.hid hu; clear hu
        by_cases he : t = s
        · have he' := Lib.hid he
          have hd : decide (t = s) = true := decide_eq_true he
          have hc : ∀ w', Below wr.heap.size wr w' → Calls Try.prog 49 #[.agg (tcs t).toArray, .agg (tcs s).toArray] w' fun e w'' => e = .returned (.bool true) ∧ Below w'.heap.size w' w'' := fun w' _ => by
            have := eqToken_c (t := t) (u := s) (w := w'); rwa [hd] at this
          clear hd he
          go_wp2_with (first | (refine r_len rfl rfl st_tok rfl hx.1 ?_))
          refine wp_region_below (by kernel_rfl) (by kernel_rfl) ?_
          (repeat (first | go_big_quiet_skip | (refine q_index rfl rfl st_tok rfl rfl hx.1 (by omega) (by omega) ?_; simp only [Act.put, Act.eval, List.setIfInBounds_toArray, List.set_cons_succ, List.set_cons_zero, Array.getD_eq_getD_getElem?, List.getElem?_toArray, List.getElem?_cons_succ, List.getElem?_cons_zero, Option.getD_some]) | (refine q_index rfl rfl st_tok rfl rfl hy.1 (by omega) (by omega) ?_; simp only [Act.put, Act.eval, List.setIfInBounds_toArray, List.set_cons_succ, List.set_cons_zero, Array.getD_eq_getD_getElem?, List.getElem?_toArray, List.getElem?_cons_succ, List.getElem?_cons_zero, Option.getD_some]) | (refine q_loadTokG rfl (by first | exact same_below _ | exact drew_below _) rfl tk_tok rfl (Toks.rdSQ hx S) (by omega) HT ?_; simp only [Act.put, Act.eval, List.setIfInBounds_toArray, List.set_cons_succ, List.set_cons_zero, Array.getD_eq_getD_getElem?, List.getElem?_toArray, List.getElem?_cons_succ, List.getElem?_cons_zero, Option.getD_some]) | (refine q_loadTokG rfl (by first | exact same_below _ | exact drew_below _) rfl tk_tok rfl (Toks.rdSQ hy S) (by omega) HU ?_; simp only [Act.put, Act.eval, List.setIfInBounds_toArray, List.set_cons_succ, List.set_cons_zero, Array.getD_eq_getD_getElem?, List.getElem?_toArray, List.getElem?_cons_succ, List.getElem?_cons_zero, Option.getD_some]) | (refine q_callC (args := #[.agg (tcs t).toArray, .agg (tcs s).toArray]) rfl (by first | exact same_below _ | exact drew_below _) (by first | exact same_below _ | exact drew_below _) Try.func49 (by kernel_rfl) rfl rfl (by simp only [List.map_toArray, List.map_cons, List.map_nil]; rfl) hc ?_; simp only [Act.put, Act.eval, List.setIfInBounds_toArray, List.set_cons_succ, List.set_cons_zero, Array.getD_eq_getD_getElem?, List.getElem?_toArray, List.getElem?_cons_succ, List.getElem?_cons_zero, Option.getD_some]) | ((first | refine q_move rfl rfl rfl ?_ | refine q_assign rfl rfl rfl ?_ | refine q_pickT rfl rfl rfl rfl ?_ | refine q_pickF rfl rfl rfl rfl ?_ | refine q_lss rfl rfl rfl rfl (by first | assumption | exact decide_eq_true (by omega) | exact decide_eq_false (by omega) | rfl) ?_ | refine q_leq rfl rfl rfl rfl (by first | assumption | exact decide_eq_true (by omega) | exact decide_eq_false (by omega) | rfl) ?_ | refine q_gtr rfl rfl rfl rfl (by first | assumption | exact decide_eq_true (by omega) | exact decide_eq_false (by omega) | rfl) ?_ | refine q_geq rfl rfl rfl rfl (by first | assumption | exact decide_eq_true (by omega) | exact decide_eq_false (by omega) | rfl) ?_ | refine q_eql rfl rfl rfl rfl (by first | assumption | exact beq_iff_eq.2 (by omega) | exact beq_eq_false_iff_ne.2 (by omega) | rfl) ?_ | refine q_neq rfl rfl rfl rfl (by first | assumption | (rw [bne_iff_ne]; omega) | (rw [bne_eq_false_iff_eq]; omega) | rfl) ?_ | refine q_add rfl rfl rfl rfl (by omega) ?_ | refine q_sub rfl rfl rfl rfl (by omega) ?_ | refine q_mul rfl rfl rfl rfl (by omega) ?_ | refine q_min rfl rfl rfl rfl ?_ | refine q_max rfl rfl rfl rfl ?_ | refine q_not rfl rfl rfl rfl ?_); simp only [Act.put, Act.eval, List.setIfInBounds_toArray, List.set_cons_succ, List.set_cons_zero, Array.getD_eq_getD_getElem?, List.getElem?_toArray, List.getElem?_cons_succ, List.getElem?_cons_zero, Option.getD_some])))
          (refine wpQuiet_nil ?_; intro w1 hb)
          go_wp2
          go_roundw
          case rel => exact ⟨k + 1, by omega, by go_num, hE.out he'.out, S.ext hb⟩
          case measure => simp [intOf]; omega
        · have hd : decide (t = s) = false := decide_eq_false he
          have hc : ∀ w', Below wr.heap.size wr w' → Calls Try.prog 49 #[.agg (tcs t).toArray, .agg (tcs s).toArray] w' fun e w'' => e = .returned (.bool false) ∧ Below w'.heap.size w' w'' := fun w' _ => by
            have := eqToken_c (t := t) (u := s) (w := w'); rwa [hd] at this
          have HN := Lib.hid (show ¬ ts = us from fun e => he (by rw [← HT.out, ← HU.out, e]))
          clear hd he
          go_wp2_with (first | (refine r_len rfl rfl st_tok rfl hx.1 ?_))
          refine wp_region_below (by kernel_rfl) (by kernel_rfl) ?_
          (repeat (first | go_big_quiet_skip | (refine q_index rfl rfl st_tok rfl rfl hx.1 (by omega) (by omega) ?_; simp only [Act.put, Act.eval, List.setIfInBounds_toArray, List.set_cons_succ, List.set_cons_zero, Array.getD_eq_getD_getElem?, List.getElem?_toArray, List.getElem?_cons_succ, List.getElem?_cons_zero, Option.getD_some]) | (refine q_index rfl rfl st_tok rfl rfl hy.1 (by omega) (by omega) ?_; simp only [Act.put, Act.eval, List.setIfInBounds_toArray, List.set_cons_succ, List.set_cons_zero, Array.getD_eq_getD_getElem?, List.getElem?_toArray, List.getElem?_cons_succ, List.getElem?_cons_zero, Option.getD_some]) | (refine q_loadTokG rfl (by first | exact same_below _ | exact drew_below _) rfl tk_tok rfl (Toks.rdSQ hx S) (by omega) HT ?_; simp only [Act.put, Act.eval, List.setIfInBounds_toArray, List.set_cons_succ, List.set_cons_zero, Array.getD_eq_getD_getElem?, List.getElem?_toArray, List.getElem?_cons_succ, List.getElem?_cons_zero, Option.getD_some]) | (refine q_loadTokG rfl (by first | exact same_below _ | exact drew_below _) rfl tk_tok rfl (Toks.rdSQ hy S) (by omega) HU ?_; simp only [Act.put, Act.eval, List.setIfInBounds_toArray, List.set_cons_succ, List.set_cons_zero, Array.getD_eq_getD_getElem?, List.getElem?_toArray, List.getElem?_cons_succ, List.getElem?_cons_zero, Option.getD_some]) | (refine q_callC (args := #[.agg (tcs t).toArray, .agg (tcs s).toArray]) rfl (by first | exact same_below _ | exact drew_below _) (by first | exact same_below _ | exact drew_below _) Try.func49 (by kernel_rfl) rfl rfl (by simp only [List.map_toArray, List.map_cons, List.map_nil]; rfl) hc ?_; simp only [Act.put, Act.eval, List.setIfInBounds_toArray, List.set_cons_succ, List.set_cons_zero, Array.getD_eq_getD_getElem?, List.getElem?_toArray, List.getElem?_cons_succ, List.getElem?_cons_zero, Option.getD_some]) | ((first | refine q_move rfl rfl rfl ?_ | refine q_assign rfl rfl rfl ?_ | refine q_pickT rfl rfl rfl rfl ?_ | refine q_pickF rfl rfl rfl rfl ?_ | refine q_lss rfl rfl rfl rfl (by first | assumption | exact decide_eq_true (by omega) | exact decide_eq_false (by omega) | rfl) ?_ | refine q_leq rfl rfl rfl rfl (by first | assumption | exact decide_eq_true (by omega) | exact decide_eq_false (by omega) | rfl) ?_ | refine q_gtr rfl rfl rfl rfl (by first | assumption | exact decide_eq_true (by omega) | exact decide_eq_false (by omega) | rfl) ?_ | refine q_geq rfl rfl rfl rfl (by first | assumption | exact decide_eq_true (by omega) | exact decide_eq_false (by omega) | rfl) ?_ | refine q_eql rfl rfl rfl rfl (by first | assumption | exact beq_iff_eq.2 (by omega) | exact beq_eq_false_iff_ne.2 (by omega) | rfl) ?_ | refine q_neq rfl rfl rfl rfl (by first | assumption | (rw [bne_iff_ne]; omega) | (rw [bne_eq_false_iff_eq]; omega) | rfl) ?_ | refine q_add rfl rfl rfl rfl (by omega) ?_ | refine q_sub rfl rfl rfl rfl (by omega) ?_ | refine q_mul rfl rfl rfl rfl (by omega) ?_ | refine q_min rfl rfl rfl rfl ?_ | refine q_max rfl rfl rfl rfl ?_ | refine q_not rfl rfl rfl rfl ?_); simp only [Act.put, Act.eval, List.setIfInBounds_toArray, List.set_cons_succ, List.set_cons_zero, Array.getD_eq_getD_getElem?, List.getElem?_toArray, List.getElem?_cons_succ, List.getElem?_cons_zero, Option.getD_some])))
          (refine wpQuiet_nil ?_; intro w1 hb)
          go_wp2
          go_ret
          exact ⟨ret_bool (decide_eq_false HN.out).symm, (S.ext hb).below⟩
      · go_wp2_with (first | (refine r_len rfl rfl st_tok rfl hx.1 ?_))
        go_ret
        have e : ts = us := by
          have := HH.out
          rwa [List.take_of_length_le (by omega), List.take_of_length_le (by omega)] at this
        exact ⟨ret_bool (decide_eq_true e).symm, S.below⟩
  · have h1 : ((ts.length : Int) != us.length) = true := by simpa using hlen
    have HN := Lib.hid (show ¬ ts = us from fun e => hlen (by rw [e])); clear hlen
    go_enter Try.func19, Try.ntmps19
    go_wp2_with (first | (refine r_len rfl rfl st_tok rfl hx.1 ?_) | (refine r_len rfl rfl st_tok rfl hy.1 ?_))
    go_ret
    exact ⟨ret_bool (decide_eq_false HN.out).symm, Below.refl _ _⟩
end Go.Proofs.Ytmkobefandfegaa
