/-
  The best tokens; greedy tokens.
-/
import Derived.Test.YtjbedonncjppfaaLT2
namespace Go.Proofs.Ytjbedonncjppfaa
set_option linter.unusedVariables false
set_option linter.unusedSimpArgs false
set_option linter.unnecessarySimpa false
open Go.RowKit

theorem chain_all {f : Nat → Tok} {n : Nat} {P : Tok → Prop} (hf : ∀ p, p < n → P (f p)) : ∀ (k p : Nat), n - p ≤ k → ∀ t ∈ chain f n p, P t := by
  intro k
  induction k with
  | zero => intro p h; rw [chain_end (by omega)]; intro t ht; cases ht
  | succ k ih =>
    intro p h
    by_cases hp : p < n
    · rw [chain_step hp]
      have ha := adv_pos (f p)
      intro t ht
      rcases List.mem_cons.1 ht with rfl | ht
      · exact hf p hp
      · exact ih (p + adv (f p)) (by omega) t ht
    · rw [chain_end (by omega)]; intro t ht; cases ht
theorem best_long (xs : List Int) : ∀ t ∈ parseBest xs, 0 < t.b → 3 ≤ t.m := by
  unfold parseBest
  split
  · exact chain_all (P := fun t => 0 < t.b → 3 ≤ t.m) (fun p hp => btok_long hp) _ 0 (Nat.le_refl _)
  · intro t ht; cases ht
theorem best_len' (xs : List Int) : (parseBest xs).length ≤ xs.length := by
  unfold parseBest
  split
  · exact chain_len _ _ 0
  · exact Nat.zero_le _
theorem greedy_len' (xs : List Int) : (greedy xs).length ≤ xs.length := by
  unfold greedy
  split
  · exact chain_len _ _ 0
  · exact Nat.zero_le _
theorem gt_mem {ts : List Tok} {k : Nat} (h : k < ts.length) : gt ts (k : Int) ∈ ts := by
  unfold gt
  rw [Int.toNat_natCast, List.getD_eq_getElem?_getD, List.getElem?_eq_getElem h, Option.getD_some]
  exact List.getElem_mem h

theorem DrawTokensGreedy_c {v : Value} {zs : List Int} {w0 : World} (hB : Byt w0 v zs) :
    Calls Try.prog 15 #[v] w0 fun e w' => ∃ r xs, e = .returned r ∧ Sep w0 [ient 3 r xs] w' ∧ xs.length ≤ 400 ∧ allIn (-1) 8 xs = true := by
  refine u_enter (vs := [v]) Try.func15 rfl Try.ntmps15 rfl ?_; dsimp only [argsE]
  repeat' (first | refine u_seq ?_ | refine u_region ?_ | refine u_nil ?_ | refine ux_seq ?_ | refine u_condT rfl ?_ | refine u_condF rfl ?_ | refine u_skip ?_ | refine u_exit ?_ | refine u_block ?_ | refine u_ret ?_ | refine ux_seqR ?_ | refine ux_seqX ?_ | refine ux_blkN ?_ | refine ux_blkR ?_ | refine ux_blkX ?_ | refine ux_blkO rfl ?_ | refine u_gT rfl rfl ?_ | refine u_gF rfl rfl rfl rfl ?_ | (refine u_val (by first | exact x_move rfl | exact x_assign rfl | exact x_add rfl rfl (by omega) | exact x_sub rfl rfl (by omega) | exact x_pickT rfl rfl | exact x_pickF rfl rfl | exact x_notT rfl | exact x_notF rfl | exact x_len st_int rfl (by first | exact Ints.rd (by assumption) | exact Acc.ints (by first | exact Sep.a0 S | exact Sep.a1 S | exact Sep.a2 S | exact Sep.a3 S | exact Sep.a4 S | exact Sep.a5 S | exact Sep.a6 S | exact Sep.a7 S | exact Sep.a8 S | exact Sep.a9 S)) | exact x_index st_int rfl rfl (by first | exact Ints.rd (by assumption) | exact Acc.ints (by first | exact Sep.a0 S | exact Sep.a1 S | exact Sep.a2 S | exact Sep.a3 S | exact Sep.a4 S | exact Sep.a5 S | exact Sep.a6 S | exact Sep.a7 S | exact Sep.a8 S | exact Sep.a9 S)) (by omega) (by first | omega | (simp only [List.length_append, List.length_cons, List.length_nil, List.length_set, List.length_replicate, List.length_map, List.length_range]; omega)) | exact x_loadInt t_int rfl (by first | exact Ints.rd (by assumption) | exact Ints.rdS (by assumption) S | exact Acc.ints (by first | exact Sep.a0 S | exact Sep.a1 S | exact Sep.a2 S | exact Sep.a3 S | exact Sep.a4 S | exact Sep.a5 S | exact Sep.a6 S | exact Sep.a7 S | exact Sep.a8 S | exact Sep.a9 S)) (by omega) (by first | omega | (simp only [List.length_append, List.length_cons, List.length_nil, List.length_set, List.length_replicate, List.length_map, List.length_range]; omega)) | exact x_mul rfl rfl (by omega) | exact x_quo rfl rfl (by omega) (by omega) (by omega) | exact x_rem rfl rfl (by omega) (by omega) (by omega) | exact x_min rfl rfl | exact x_max rfl rfl | exact x_extract rfl rfl | exact x_neqB0 t_bool rfl rfl | exact x_eqlB1 t_bool rfl rfl) rfl ?_) | (refine u_val (by first | exact x_lss rfl rfl | exact x_leq rfl rfl | exact x_gtr rfl rfl | exact x_geq rfl rfl | exact x_eql rfl rfl | exact x_neq rfl rfl | exact x_eqlB t_bool rfl rfl | exact x_neqB t_bool rfl rfl) rfl ?_; (first | refine u_bT (by first | (with_reducible assumption) | exact decide_eq_true (by first | omega | (simp only [List.length_append, List.length_cons, List.length_nil, List.length_set, List.length_replicate, List.length_map, List.length_range]; omega))) ?_ | refine u_bF (by first | (with_reducible assumption) | exact decide_eq_false (by first | omega | (simp only [List.length_append, List.length_cons, List.length_nil, List.length_set, List.length_replicate, List.length_map, List.length_range]; omega))) ?_ | (refine u_bS (fun hc => ?_) (fun hc => ?_) <;> try simp only [decide_eq_true_eq, decide_eq_false_iff_not, ne_eq, Decidable.not_not] at hc))) | (refine u_call cal34 rfl rfl (l6Open_c hB) ?_; rintro _ w ⟨p, b, ys, rfl, S, hB', hl'⟩; refine ⟨_, rfl, ?_⟩) | (refine u_call cal35 rfl rfl (l91List_c S hB' hl' (by omega) (by omega)) ?_; rintro _ w ⟨r, xs, n', rfl, S1, hx, hv, n0, n1⟩; refine ⟨_, rfl, ?_⟩; clear S))
  exact ux_end1 rfl rfl ⟨r, xs, rfl, S1.sub (by simp), hx, hv⟩
end Go.Proofs.Ytjbedonncjppfaa
