/-
  Laws of parses: parts, shorter lists, runs.
-/
import Derived.Test.YtjbedonncjppfaaPureT
namespace Go.Proofs.Ytjbedonncjppfaa
set_option linter.unusedVariables false
set_option linter.unusedSimpArgs false
set_option linter.unnecessarySimpa false

theorem listOk_take {xs : List Int} (hx : listOk xs = true) (n : Nat) : listOk (xs.take n) = true := by
  obtain ⟨h1, h2⟩ := listOk_iff.1 hx
  exact listOk_iff.2 ⟨by rw [List.length_take]; omega, allIn_take_of h2 n⟩
theorem listOk_drop {xs : List Int} (hx : listOk xs = true) (n : Nat) : listOk (xs.drop n) = true := by
  obtain ⟨h1, h2⟩ := listOk_iff.1 hx
  exact listOk_iff.2 ⟨by rw [List.length_drop]; omega, List.all_eq_true.2 fun x hx => List.all_eq_true.1 h2 x (List.mem_of_mem_drop hx)⟩

theorem parseLeast_nonneg {xs : List Int} (hx : listOk xs = true) : 0 ≤ parseLeast xs := by rw [parseLeast_eq hx]; exact D_nonneg xs 0
theorem parseLeast_no {xs : List Int} (hx : ¬ listOk xs = true) : parseLeast xs = -1 := by unfold parseLeast; rw [if_neg hx]
theorem listOk_of_least {xs : List Int} (h : 0 ≤ parseLeast xs) : listOk xs = true := by
  by_cases hx : listOk xs = true
  · exact hx
  · rw [parseLeast_no hx] at h; omega
theorem parseLeast_ge (xs : List Int) : -1 ≤ parseLeast xs := by
  by_cases hx : listOk xs = true
  · have := parseLeast_nonneg hx; omega
  · rw [parseLeast_no hx]; omega

/-- A step in the first part is a step in the whole. -/
theorem step_first {xs : List Int} {n p : Nat} {t : Tok} (h : StepTok (xs.take n) p t) : StepTok xs p t := by
  rcases h with ⟨h1, h2, h3, h4⟩ | ⟨h1, h2, h3, h4, h5, h6⟩
  · rw [List.length_take] at h3
    exact .inl ⟨h1, h2, by omega, by rw [h4, gi_take (by omega) (by omega)]⟩
  · refine .inr ⟨h1, h2, h3, h4, h5, fun i hi => ?_⟩
    obtain ⟨g1, g2⟩ := h6 i hi
    rw [List.length_take] at g1
    rw [gi_take (by omega) (by omega), gi_take (by omega) (by omega)] at g2
    exact ⟨by omega, g2⟩
theorem step_second {xs : List Int} {n p : Nat} {t : Tok} (hn : n ≤ xs.length) (h : StepTok (xs.drop n) p t) : StepTok xs (n + p) t := by
  rcases h with ⟨h1, h2, h3, h4⟩ | ⟨h1, h2, h3, h4, h5, h6⟩
  · rw [List.length_drop] at h3
    exact .inl ⟨h1, h2, by omega, by rw [h4, gi_drop (by omega)]; congr 1⟩
  · refine .inr ⟨h1, h2, by omega, h4, h5, fun i hi => ?_⟩
    obtain ⟨g1, g2⟩ := h6 i hi
    rw [List.length_drop] at g1
    rw [gi_drop (by omega), gi_drop (by omega)] at g2
    refine ⟨by omega, ?_⟩
    rw [show (((n + p : Nat) : Int) + i) = n + (p + i) by omega, g2]
    congr 1; omega
theorem parse_second {xs : List Int} {n : Nat} (hn : n ≤ xs.length) : ∀ {ts : List Tok} {p : Nat}, Parse (xs.drop n) p ts → Parse xs (n + p) ts
  | [], p, h => by simp only [Parse, List.length_drop] at h ⊢; omega
  | t :: ts, p, h => ⟨step_second hn h.1, by have := parse_second hn h.2; rwa [← Nat.add_assoc] at this⟩
theorem parse_join {xs : List Int} {n : Nat} {us : List Tok} (hn : n ≤ xs.length) (hu : Parse xs n us) : ∀ {ts : List Tok} {p : Nat}, Parse (xs.take n) p ts → Parse xs p (ts ++ us)
  | [], p, h => by
    simp only [Parse, List.length_take] at h
    have : p = n := by omega
    rw [this]; exact hu
  | t :: ts, p, h => ⟨step_first h.1, parse_join hn hu h.2⟩

theorem least_two {xs : List Int} (hx : listOk xs = true) {n : Nat} (hn : n ≤ xs.length) : parseLeast xs ≤ parseLeast (xs.take n) + parseLeast (xs.drop n) := by
  have h1 := best_parse (listOk_take hx n)
  have h2 := best_parse (listOk_drop hx n)
  have h3 := parse_second hn h2
  have h4 := least_le (parse_join hn h3 h1)
  rw [← best_cost (listOk_take hx n), ← best_cost (listOk_drop hx n), ← costL_app, parseLeast_eq hx]
  exact h4

theorem sym_step {xs : List Int} {p : Nat} (hp : p < xs.length) : StepTok xs p ⟨gi xs p, 0, 0⟩ := .inl ⟨rfl, rfl, hp, rfl⟩
theorem least_more {xs : List Int} (hx : listOk xs = true) {n : Nat} (hn : n + 1 = xs.length) : parseLeast xs ≤ parseLeast (xs.take n) + 4 := by
  have h1 := best_parse (listOk_take hx n)
  have h2 : Parse xs n [⟨gi xs n, 0, 0⟩] := ⟨sym_step (by omega), by show n + 1 = _; exact hn⟩
  have h4 := least_le (parse_join (by omega) h2 h1)
  rw [← best_cost (listOk_take hx n), parseLeast_eq hx]
  rw [costL_app] at h4
  exact h4

theorem costL_nonneg : ∀ ts : List Tok, 0 ≤ costL ts
  | [] => Int.le_refl _
  | t :: ts => by
    have := costL_nonneg ts
    simp only [costL, tcost]
    split <;> omega
theorem cut_parse {xs : List Int} {n : Nat} (hn : n ≤ xs.length) : ∀ {ts : List Tok} {p : Nat}, p ≤ n → Parse xs p ts → ∃ us, Parse (xs.take n) p us ∧ costL us ≤ costL ts
  | [], p, hp, h => ⟨[], by simp only [Parse, List.length_take] at h ⊢; omega, Int.le_refl _⟩
  | t :: ts, p, hp, h => by
    have hlen : (xs.take n).length = n := by rw [List.length_take]; omega
    by_cases hpn : p = n
    · exact ⟨[], by simp only [Parse]; omega, costL_nonneg _⟩
    have hc := costL_nonneg ts
    rcases h.1 with hs | hm
    · have ha := adv_sym hs
      have h2 := h.2
      rw [ha] at h2
      obtain ⟨us, hu, hle⟩ := cut_parse hn (by omega) h2
      refine ⟨t :: us, ⟨.inl ⟨hs.1, hs.2.1, by omega, by rw [hs.2.2.2, gi_take (by omega) (by omega)]⟩, by rw [ha]; exact hu⟩, by simp only [costL]; omega⟩
    · have ha := adv_match hm
      obtain ⟨g1, g2, g3, g4, g5, g6⟩ := hm
      have ht : tcost t = 8 := by unfold tcost; rw [if_neg (by omega)]
      by_cases hin : p + t.m.toNat ≤ n
      · have h2 := h.2
        rw [ha] at h2
        obtain ⟨us, hu, hle⟩ := cut_parse hn hin h2
        refine ⟨t :: us, ⟨.inr ⟨g1, g2, g3, g4, g5, fun i hi => ⟨by omega, ?_⟩⟩, by rw [ha]; exact hu⟩, by simp only [costL]; omega⟩
        rw [gi_take (by omega) (by omega), gi_take (by omega) (by omega)]
        exact (g6 i hi).2
      · by_cases h1 : p + 1 = n
        · refine ⟨[⟨gi (xs.take n) p, 0, 0⟩], ⟨.inl ⟨rfl, rfl, by omega, rfl⟩, by show p + 1 = _; omega⟩, ?_⟩
          show (4 : Int) + 0 ≤ tcost t + costL ts
          omega
        · refine ⟨[⟨0, t.b, ((n - p : Nat) : Int)⟩], ⟨.inr ⟨rfl, g2, g3, by show (2 : Int) ≤ ((n - p : Nat) : Int); omega, by show ((n - p : Nat) : Int) ≤ 9; omega, fun i hi => ?_⟩, ?_⟩, ?_⟩
          · have hi' : i < n - p := hi
            refine ⟨by omega, ?_⟩
            show gi (xs.take n) ((p : Int) + i) = gi (xs.take n) ((p : Int) + i - t.b)
            rw [gi_take (by omega) (by omega), gi_take (by omega) (by omega)]
            exact (g6 i (by omega)).2
          · show p + adv ⟨0, t.b, ((n - p : Nat) : Int)⟩ = _
            unfold adv
            show p + (max ((n - p : Nat) : Int) 1).toNat = _
            omega
          · show tcost ⟨0, t.b, ((n - p : Nat) : Int)⟩ + 0 ≤ tcost t + costL ts
            have : tcost ⟨0, t.b, ((n - p : Nat) : Int)⟩ = 8 := by unfold tcost; exact if_neg (by show t.b ≠ 0; omega)
            omega
theorem least_take {xs : List Int} (hx : listOk xs = true) {n : Nat} (hn : n ≤ xs.length) : parseLeast (xs.take n) ≤ parseLeast xs := by
  obtain ⟨us, hu, hle⟩ := cut_parse hn (Nat.zero_le _) (best_parse hx)
  rw [best_cost hx] at hle
  have := least_le hu
  rw [parseLeast_eq (listOk_take hx n)]
  omega
theorem least_runs : ∀ r : Nat, r < 7 → ∀ v : Nat, v < 8 → parseLeast (List.replicate (4 + r) (v : Int)) = 12 := by decide +kernel
end Go.Proofs.Ytjbedonncjppfaa
