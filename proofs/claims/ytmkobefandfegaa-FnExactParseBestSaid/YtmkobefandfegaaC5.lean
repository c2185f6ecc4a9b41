/-
  A law: the longest match at a place is the reference's.
-/
import Derived.Test.YtmkobefandfegaaC4
namespace Go.Proofs.Ytmkobefandfegaa
set_option linter.unusedVariables false
set_option linter.unusedSimpArgs false
set_option linter.unnecessarySimpa false
open Go.RowKit

theorem eqToken_c {t u : Tok} {w : World} :
    Calls Try.prog 49 #[.agg (tcs t).toArray, .agg (tcs u).toArray] w fun e w' => e = .returned (.bool (decide (t = u))) ∧ Below w.heap.size w w' := by
  have S := Sep.refl w
  by_cases hs : t.s = u.s
  · by_cases hb : t.b = u.b
    · by_cases hm : t.m = u.m
      · have e : t = u := by cases t; cases u; simp_all
        subst e
        clear hs hb hm
        unfold tcs
        go_enter Try.func49, Try.ntmps49
        go_wp2_with (first | (refine r_boxAgg rfl rfl rfl S ?_; intro p1 w1 S1) | (refine r_boxAgg rfl rfl rfl S1 ?_; intro p2 w2 S2) | (refine r_field rfl rfl (by first | exact fd_tok0 | exact fd_tok1 | exact fd_tok2) rfl (by first | exact Acc.all S2.a0 (by simp) | exact Acc.all S2.a1 (by simp)) ?_) | (refine r_load1 rfl rfl t_int rfl (by first | exact Acc.adr1 S2.a0 _ (by rfl) | exact Acc.adr1 S2.a1 _ (by rfl)) rfl ?_))
        go_ret
        exact ⟨ret_bool (by simp), S2.below⟩
      · have e : ¬ t = u := fun e => hm (by rw [e])
        have h1 : (t.s != u.s) = false := by simpa using hs
        have h2 : (t.b != u.b) = false := by simpa using hb
        have h3 : (t.m != u.m) = true := by simpa using hm
        have E := Lib.hid e
        clear hs hb hm e
        unfold tcs
        go_enter Try.func49, Try.ntmps49
        go_wp2_with (first | (refine r_boxAgg rfl rfl rfl S ?_; intro p1 w1 S1) | (refine r_boxAgg rfl rfl rfl S1 ?_; intro p2 w2 S2) | (refine r_field rfl rfl (by first | exact fd_tok0 | exact fd_tok1 | exact fd_tok2) rfl (by first | exact Acc.all S2.a0 (by simp) | exact Acc.all S2.a1 (by simp)) ?_) | (refine r_load1 rfl rfl t_int rfl (by first | exact Acc.adr1 S2.a0 _ (by rfl) | exact Acc.adr1 S2.a1 _ (by rfl)) rfl ?_))
        go_ret
        exact ⟨ret_bool (decide_eq_false E.out).symm, S2.below⟩
    · have e : ¬ t = u := fun e => hb (by rw [e])
      have h1 : (t.s != u.s) = false := by simpa using hs
      have h2 : (t.b != u.b) = true := by simpa using hb
      have E := Lib.hid e
      clear hs hb e
      unfold tcs
      go_enter Try.func49, Try.ntmps49
      go_wp2_with (first | (refine r_boxAgg rfl rfl rfl S ?_; intro p1 w1 S1) | (refine r_boxAgg rfl rfl rfl S1 ?_; intro p2 w2 S2) | (refine r_field rfl rfl (by first | exact fd_tok0 | exact fd_tok1 | exact fd_tok2) rfl (by first | exact Acc.all S2.a0 (by simp) | exact Acc.all S2.a1 (by simp)) ?_) | (refine r_load1 rfl rfl t_int rfl (by first | exact Acc.adr1 S2.a0 _ (by rfl) | exact Acc.adr1 S2.a1 _ (by rfl)) rfl ?_))
      go_ret
      exact ⟨ret_bool (decide_eq_false E.out).symm, S2.below⟩
  · have e : ¬ t = u := fun e => hs (by rw [e])
    have h1 : (t.s != u.s) = true := by simpa using hs
    have E := Lib.hid e
    clear hs e
    unfold tcs
    go_enter Try.func49, Try.ntmps49
    go_wp2_with (first | (refine r_boxAgg rfl rfl rfl S ?_; intro p1 w1 S1) | (refine r_boxAgg rfl rfl rfl S1 ?_; intro p2 w2 S2) | (refine r_field rfl rfl (by first | exact fd_tok0 | exact fd_tok1 | exact fd_tok2) rfl (by first | exact Acc.all S2.a0 (by simp) | exact Acc.all S2.a1 (by simp)) ?_) | (refine r_load1 rfl rfl t_int rfl (by first | exact Acc.adr1 S2.a0 _ (by rfl) | exact Acc.adr1 S2.a1 _ (by rfl)) rfl ?_))
    go_ret
    exact ⟨ret_bool (decide_eq_false E.out).symm, S2.below⟩
end Go.Proofs.Ytmkobefandfegaa
