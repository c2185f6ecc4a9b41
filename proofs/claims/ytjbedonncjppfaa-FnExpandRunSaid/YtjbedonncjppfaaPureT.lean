/-
  The plain functions: tokens of a list, one behind the other; what they cost; the best ones.
-/
import Derived.Test.YtjbedonncjppfaaPure3
namespace Go.Proofs.Ytjbedonncjppfaa
set_option linter.unusedVariables false
set_option linter.unusedSimpArgs false
set_option linter.unnecessarySimpa false

/-! ### Tokens one behind the other -/
def adv (t : Tok) : Nat := (max t.m 1).toNat

theorem adv_pos (t : Tok) : 1 ≤ adv t := by unfold adv; omega

def chainF (f : Nat → Tok) (n : Nat) : Nat → Nat → List Tok
  | 0, _ => []
  | k + 1, p => if p < n then f p :: chainF f n k (p + adv (f p)) else []

def chain (f : Nat → Tok) (n p : Nat) : List Tok := chainF f n (n - p) p

theorem chainF_fuel (f : Nat → Tok) (n : Nat) : ∀ (k k' p : Nat), n - p ≤ k → n - p ≤ k' → chainF f n k p = chainF f n k' p
  | 0, 0, _, _, _ => rfl
  | 0, k' + 1, p, h, _ => by simp only [chainF]; rw [if_neg (by omega)]
  | k + 1, 0, p, _, h => by simp only [chainF]; rw [if_neg (by omega)]
  | k + 1, k' + 1, p, h, h' => by
    have := adv_pos (f p)
    simp only [chainF]
    by_cases hp : p < n
    · rw [if_pos hp, if_pos hp, chainF_fuel f n k k' (p + adv (f p)) (by omega) (by omega)]
    · rw [if_neg hp, if_neg hp]

theorem chain_step {f : Nat → Tok} {n p : Nat} (h : p < n) : chain f n p = f p :: chain f n (p + adv (f p)) := by
  have := adv_pos (f p)
  obtain ⟨k, hk⟩ : ∃ k, n - p = k + 1 := ⟨n - p - 1, by omega⟩
  unfold chain
  rw [hk]
  simp only [chainF]
  rw [if_pos h, chainF_fuel f n k (n - (p + adv (f p))) (p + adv (f p)) (by omega) (by omega)]

theorem chain_end {f : Nat → Tok} {n p : Nat} (h : n ≤ p) : chain f n p = [] := by
  unfold chain
  rw [show n - p = 0 by omega]; rfl

theorem chain_length {f : Nat → Tok} {n : Nat} : ∀ (k p : Nat), n - p ≤ k → (chain f n p).length ≤ n - p
  | 0, p, h => by rw [chain_end (by omega)]; simp
  | k + 1, p, h => by
    by_cases hp : p < n
    · have := adv_pos (f p)
      have ih := chain_length (f := f) (n := n) k (p + adv (f p)) (by omega)
      rw [chain_step hp, List.length_cons]
      omega
    · rw [chain_end (by omega)]; simp

theorem chain_len (f : Nat → Tok) (n p : Nat) : (chain f n p).length ≤ n - p := chain_length (n - p) p (Nat.le_refl _)

def gtok (xs : List Int) (p : Nat) : Tok := if 0 < (matchAt xs p).m then matchAt xs p else ⟨gi xs p, 0, 0⟩

def greedy (xs : List Int) : List Tok := if listOk xs = true then chain (gtok xs) xs.length 0 else []

/-! ### Matches -/
theorem mrun_go {xs : List Int} {p back : Int} : ∀ (f n i : Nat), n ≤ i → i < mrun xs p back f n → goesOn xs p back i = true
  | 0, n, i, h, h' => by simp only [mrun] at h'; omega
  | f + 1, n, i, h, h' => by
    simp only [mrun] at h'
    by_cases hg : goesOn xs p back n = true
    · rw [if_pos hg] at h'
      by_cases e : i = n
      · rw [e]; exact hg
      · exact mrun_go f (n + 1) i (by omega) h'
    · rw [if_neg hg] at h'; omega

theorem mrun_ge {xs : List Int} {p back : Int} : ∀ (f n k : Nat), k ≤ n + f → (∀ i, n ≤ i → i < k → goesOn xs p back i = true) → k ≤ mrun xs p back f n ∨ k ≤ n
  | 0, n, k, h, _ => .inr (by omega)
  | f + 1, n, k, h, hg => by
    by_cases hk : k ≤ n
    · exact .inr hk
    · simp only [mrun]
      rw [if_pos (hg n (Nat.le_refl _) (by omega))]
      rcases mrun_ge f (n + 1) k (by omega) (fun i h1 h2 => hg i (by omega) h2) with h1 | h1
      · exact .inl h1
      · have := (mrun_bd (xs := xs) (p := p) (back := back) f (n + 1)).1
        exact .inl (by omega)

/-- The symbols of a match are those some places before. -/
def Same (xs : List Int) (p : Nat) (b : Int) (k : Nat) : Prop := ∀ i : Nat, i < k → p + i < xs.length ∧ gi xs ((p : Int) + i) = gi xs ((p : Int) + i - b)

theorem goesOn_iff {xs : List Int} {p : Nat} {b : Int} {i : Nat} : goesOn xs p b i = true ↔ p + i < xs.length ∧ gi xs ((p : Int) + i) = gi xs ((p : Int) + i - b) := by
  simp only [goesOn, Bool.and_eq_true, decide_eq_true_eq]
  constructor
  · rintro ⟨h1, h2⟩; exact ⟨by omega, h2⟩
  · rintro ⟨h1, h2⟩; exact ⟨by omega, h2⟩

theorem same_of_long {xs : List Int} {p : Nat} {b : Int} {k : Nat} (h : k ≤ matchLen xs p b) : Same xs p b k := fun i hi =>
  goesOn_iff.1 (mrun_go 9 0 i (Nat.zero_le _) (Nat.lt_of_lt_of_le hi h))

theorem long_of_same {xs : List Int} {p : Nat} {b : Int} {k : Nat} (h9 : k ≤ 9) (h : Same xs p b k) : k ≤ matchLen xs p b := by
  rcases mrun_ge (xs := xs) (p := p) (back := b) 9 0 k (by omega) (fun i _ hi => goesOn_iff.2 (h i hi)) with h1 | h1
  · exact h1
  · have : k = 0 := by omega
    rw [this]; exact Nat.zero_le _

/-- The best match is one, and no other is longer, no nearer one as long. -/
theorem mbest_ok (xs : List Int) (p : Int) : ∀ k : Nat, mbest xs p k = ⟨0, 0, 0⟩ ∨
    ∃ b : Nat, 1 ≤ b ∧ b ≤ k ∧ mbest xs p k = ⟨0, b, matchLen xs p b⟩ ∧ 2 ≤ matchLen xs p b
  | 0 => .inl rfl
  | k + 1 => by
    by_cases h : 2 ≤ (matchLen xs p (k + 1 : Nat) : Int) ∧ (mbest xs p k).m < (matchLen xs p (k + 1 : Nat) : Int)
    · exact .inr ⟨k + 1, by omega, by omega, mbest_yes h, by omega⟩
    · rw [mbest_no h]
      rcases mbest_ok xs p k with h1 | ⟨b, h1, h2, h3, h4⟩
      · exact .inl h1
      · exact .inr ⟨b, h1, by omega, h3, h4⟩

theorem mbest_most (xs : List Int) (p : Int) : ∀ (k j : Nat), 1 ≤ j → j ≤ k → (matchLen xs p j : Int) ≤ max (mbest xs p k).m 1
  | 0, j, h1, h2 => by omega
  | k + 1, j, h1, h2 => by
    have bd := mbest_bd xs p k
    by_cases h : 2 ≤ (matchLen xs p (k + 1 : Nat) : Int) ∧ (mbest xs p k).m < (matchLen xs p (k + 1 : Nat) : Int)
    · rw [mbest_yes h]
      by_cases e : j = k + 1
      · subst e; dsimp only; omega
      · have := mbest_most xs p k j h1 (by omega)
        dsimp only; omega
    · rw [mbest_no h]
      by_cases e : j = k + 1
      · subst e
        by_cases h3 : (2 : Int) ≤ matchLen xs p (k + 1 : Nat)
        · have : ¬ (mbest xs p k).m < (matchLen xs p (k + 1 : Nat) : Int) := fun h' => h ⟨h3, h'⟩
          omega
        · omega
      · exact mbest_most xs p k j h1 (by omega)

theorem mbest_near (xs : List Int) (p : Int) : ∀ (k j : Nat), 1 ≤ j → (j : Int) < (mbest xs p k).b → (matchLen xs p j : Int) < (mbest xs p k).m
  | 0, j, h1, h2 => by simp only [mbest] at h2; omega
  | k + 1, j, h1, h2 => by
    by_cases h : 2 ≤ (matchLen xs p (k + 1 : Nat) : Int) ∧ (mbest xs p k).m < (matchLen xs p (k + 1 : Nat) : Int)
    · rw [mbest_yes h] at h2 ⊢
      dsimp only at h2 ⊢
      have := mbest_most xs p k j h1 (by omega)
      omega
    · rw [mbest_no h] at h2 ⊢
      exact mbest_near xs p k j h1 h2

/-! ### What tokens stand for -/
def MatchTok (xs : List Int) (p : Nat) (t : Tok) : Prop := t.s = 0 ∧ 1 ≤ t.b ∧ t.b ≤ min 16 (p : Int) ∧ 2 ≤ t.m ∧ t.m ≤ 9 ∧ Same xs p t.b t.m.toNat
def SymTok (xs : List Int) (p : Nat) (t : Tok) : Prop := t.b = 0 ∧ t.m = 0 ∧ p < xs.length ∧ t.s = gi xs p
def StepTok (xs : List Int) (p : Nat) (t : Tok) : Prop := SymTok xs p t ∨ MatchTok xs p t

def Parse (xs : List Int) : Nat → List Tok → Prop
  | p, [] => p = xs.length
  | p, t :: ts => StepTok xs p t ∧ Parse xs (p + adv t) ts

theorem adv_sym {xs : List Int} {p : Nat} {t : Tok} (h : SymTok xs p t) : adv t = 1 := by
  unfold adv; rw [h.2.1]; rfl

theorem adv_match {xs : List Int} {p : Nat} {t : Tok} (h : MatchTok xs p t) : adv t = t.m.toNat := by
  obtain ⟨_, _, _, h4, _⟩ := h; unfold adv; omega

theorem step_in {xs : List Int} {p : Nat} {t : Tok} (h : StepTok xs p t) : p + adv t ≤ xs.length := by
  rcases h with h | h
  · rw [adv_sym h]; exact h.2.2.1
  · rw [adv_match h]
    obtain ⟨_, _, _, h4, _, h6⟩ := h
    have := (h6 (t.m.toNat - 1) (by omega)).1
    omega

theorem parse_in {xs : List Int} : ∀ {ts : List Tok} {p : Nat}, Parse xs p ts → p ≤ xs.length
  | [], p, h => Nat.le_of_eq h
  | t :: ts, p, h => by have := step_in h.1; omega

theorem gi_take {xs : List Int} {n : Nat} {i : Int} (h0 : 0 ≤ i) (h : i < n) : gi (xs.take n) i = gi xs i := by
  unfold gi
  simp only [List.getD]; rw [List.getElem?_take_of_lt (by omega)]

theorem gi_app {xs ys : List Int} {i : Int} (h0 : 0 ≤ i) (h : i < xs.length) : gi (xs ++ ys) i = gi xs i := by
  unfold gi
  simp only [List.getD]; rw [List.getElem?_append_left (by omega)]

theorem gi_drop {xs : List Int} {n : Nat} {i : Int} (h0 : 0 ≤ i) : gi (xs.drop n) i = gi xs (n + i) := by
  unfold gi
  simp only [List.getD]; rw [List.getElem?_drop, show n + i.toNat = ((n : Int) + i).toNat by omega]

theorem gi_snoc (xs : List Int) (x : Int) : gi (xs ++ [x]) (xs.length : Int) = x := by
  unfold gi; simp [List.getD]

theorem gi_snoc' {xs : List Int} {x i : Int} (h : i = xs.length) : gi (xs ++ [x]) i = x := by rw [h]; exact gi_snoc xs x

theorem rep_app (out : List Int) (b : Int) : ∀ n, ∃ s, rep out b n = out ++ s
  | 0 => ⟨[], by simp [rep]⟩
  | n + 1 => by
    obtain ⟨s, hs⟩ := rep_app out b n
    exact ⟨s ++ [gi (rep out b n) ((rep out b n).length - b)], by simp only [rep]; rw [← List.append_assoc, ← hs]⟩

theorem rep_same {out : List Int} {b : Int} (h0 : 1 ≤ b) (h1 : b ≤ out.length) : ∀ n i : Nat, i < n → gi (rep out b n) ((out.length : Int) + i) = gi (rep out b n) ((out.length : Int) + i - b)
  | 0, i, h => by omega
  | n + 1, i, h => by
    have l := rep_length out b n
    simp only [rep]
    by_cases e : i = n
    · subst e
      rw [gi_snoc' (by rw [l]; omega), gi_app (by omega) (by rw [l]; omega)]
      congr 1; rw [l]; omega
    · rw [gi_app (by omega) (by rw [l]; omega), gi_app (by omega) (by rw [l]; omega)]
      exact rep_same h0 h1 n i (by omega)

theorem app_tok {out : List Int} {t : Tok} (hk : tokOk t out.length = true) : ∃ s, appTok out t = out ++ s ∧ (appTok out t).length = out.length + adv t ∧ ∀ u, StepTok (out ++ s ++ u) out.length t := by
  unfold appTok
  by_cases hb : t.b = 0
  · obtain ⟨h1, h2, h3⟩ := tokOk_lit hk hb
    rw [if_pos hb, h1]
    refine ⟨[t.s], rfl, by unfold adv; rw [h1]; simp [rep]; rfl, fun u => .inl ⟨hb, h1, by simp, ?_⟩⟩
    rw [gi_app (by omega) (by simp; omega), gi_snoc]
  · obtain ⟨h1, h2, h3, h4⟩ := tokOk_match hk hb
    rw [if_neg hb]
    obtain ⟨s, hs⟩ := rep_app out t.b t.m.toNat
    have l := rep_length out t.b t.m.toNat
    refine ⟨s, hs, by rw [l]; unfold adv; omega, fun u => .inr ⟨h1, h2.1, h2.2, h3.1, h3.2, fun i hi => ?_⟩⟩
    rw [← hs]
    refine ⟨by rw [List.length_append, l]; omega, ?_⟩
    rw [gi_app (by omega) (by rw [l]; omega), gi_app (by omega) (by rw [l]; omega)]
    exact rep_same h2.1 (by omega) _ i hi

theorem exp_parse : ∀ {ts : List Tok} {out r : List Int}, expF out ts = some r → ∃ s, r = out ++ s ∧ Parse r out.length ts
  | [], out, r, h => by
    simp only [expF, Option.some.injEq] at h
    subst h
    exact ⟨[], by simp, rfl⟩
  | t :: ts, out, r, h => by
    unfold expF at h
    by_cases hk : tokOk t out.length = true
    · rw [if_pos hk] at h
      obtain ⟨s, e1, e2, e3⟩ := app_tok hk
      obtain ⟨s', e4, e5⟩ := exp_parse h
      rw [e2] at e5
      refine ⟨s ++ s', by rw [e4, e1, List.append_assoc], ?_, e5⟩
      rw [e4, e1]; exact e3 s'
    · rw [if_neg hk] at h; cases h

theorem rep_take {xs : List Int} {p : Nat} {b : Int} {m : Nat} (h0 : 1 ≤ b) (h1 : b ≤ p) (hS : Same xs p b m) : ∀ n, n ≤ m → rep (xs.take p) b n = xs.take (p + n)
  | 0, _ => rfl
  | n + 1, h => by
    obtain ⟨h2, h3⟩ := hS n (by omega)
    have l : (xs.take (p + n)).length = p + n := by simp; omega
    simp only [rep]
    rw [rep_take h0 h1 hS n (by omega), l, show p + (n + 1) = p + n + 1 by omega, take_succ_gi h2, gi_take (by omega) (by omega)]
    congr 2
    rw [show ((p + n : Nat) : Int) = (p : Int) + n by omega]
    exact h3.symm

theorem step_app {xs : List Int} {p : Nat} {t : Tok} (hx : listOk xs = true) (h : StepTok xs p t) : tokOk t (xs.take p).length = true ∧ appTok (xs.take p) t = xs.take (p + adv t) := by
  obtain ⟨hl, ha⟩ := listOk_iff.1 hx
  have hin := step_in h
  have l : (xs.take p).length = p := by simp; have := adv_pos t; omega
  rw [l]
  rcases h with h | h
  · have e := adv_sym h
    obtain ⟨h1, h2, h3, h4⟩ := h
    have h5 := allIn_gi ha (i := (p : Int)) (by omega) (by omega)
    refine ⟨?_, ?_⟩
    · simp only [tokOk, h1, if_true, Bool.and_eq_true, beq_iff_eq, decide_eq_true_eq, inB_iff]
      exact ⟨h2, by rw [h4]; exact h5, by omega⟩
    · unfold appTok
      rw [if_pos h1, h2, e, take_succ_gi h3, h4]
      rfl
  · have e := adv_match h
    obtain ⟨h1, h2, h3, h4, h5, h6⟩ := h
    refine ⟨?_, ?_⟩
    · have : ¬ t.b = 0 := by omega
      simp only [tokOk, this, if_false, Bool.and_eq_true, beq_iff_eq, decide_eq_true_eq, inB_iff]
      exact ⟨h1, ⟨h2, h3⟩, ⟨h4, h5⟩, by omega⟩
    · unfold appTok
      rw [if_neg (by omega), e]
      exact rep_take h2 (by omega) h6 _ (Nat.le_refl _)

theorem parse_exp {xs : List Int} (hx : listOk xs = true) : ∀ {ts : List Tok} {p : Nat}, Parse xs p ts → expF (xs.take p) ts = some xs
  | [], p, h => by simp only [expF]; rw [h, List.take_length]
  | t :: ts, p, h => by
    obtain ⟨h1, h2⟩ := step_app hx h.1
    unfold expF
    rw [if_pos h1, h2]
    exact parse_exp hx h.2

/-- A chain whose tokens can stand is a parse. -/
theorem chain_parse {xs : List Int} {f : Nat → Tok} (hf : ∀ p, p < xs.length → StepTok xs p (f p)) : ∀ (k p : Nat), xs.length - p ≤ k → p ≤ xs.length → Parse xs p (chain f xs.length p)
  | 0, p, h, h' => by rw [chain_end (by omega)]; show p = _; omega
  | k + 1, p, h, h' => by
    by_cases hp : p < xs.length
    · have h1 := hf p hp
      have h2 := adv_pos (f p)
      have h3 := step_in h1
      rw [chain_step hp]
      exact ⟨h1, chain_parse hf k _ (by omega) h3⟩
    · rw [chain_end (by omega)]; show p = _; omega

/-- The tokens so far, while the list's tokens are collected. -/
theorem mbest_tok {xs : List Int} {p : Nat} {k : Nat} (hk : k ≤ min 16 p) (h : 0 < (mbest xs p k).m) : MatchTok xs p (mbest xs p k) := by
  rcases mbest_ok xs p k with h1 | ⟨b, h1, h2, h3, h4⟩
  · rw [h1] at h; simp at h
  · have := matchLen_le xs p b
    rw [h3]
    refine ⟨rfl, by dsimp only; omega, by dsimp only; omega, by dsimp only; omega, by dsimp only; omega, ?_⟩
    dsimp only
    rw [Int.toNat_natCast]
    exact same_of_long (Nat.le_refl _)

theorem matchAt_eq {xs : List Int} {p : Nat} (hx : listOk xs = true) (hp : p < xs.length) : matchAt xs p = mbest xs p (min 16 p) := by
  unfold matchAt placeOk
  rw [hx, show inB 0 (xs.length - 1) (p : Int) = true from inB_yes (by omega)]
  simp

theorem gtok_step {xs : List Int} (hx : listOk xs = true) (p : Nat) (hp : p < xs.length) : StepTok xs p (gtok xs p) := by
  unfold gtok
  by_cases h : 0 < (matchAt xs p).m
  · rw [if_pos h]
    rw [matchAt_eq hx hp] at h ⊢
    exact .inr (mbest_tok (Nat.le_refl _) h)
  · rw [if_neg h]
    exact .inl ⟨rfl, rfl, hp, rfl⟩

theorem greedy_parse {xs : List Int} (hx : listOk xs = true) : Parse xs 0 (greedy xs) := by
  unfold greedy
  rw [if_pos hx]
  exact chain_parse (gtok_step hx) _ 0 (Nat.le_refl _) (Nat.zero_le _)

theorem parse0_exp {xs : List Int} {ts : List Tok} (hx : listOk xs = true) (h : Parse xs 0 ts) : expOk ts = true ∧ expL ts = xs := by
  have := parse_exp hx h
  rw [List.take_zero] at this
  simp [expOk, expL, this]

theorem exp_parse0 {ts : List Tok} (h : expOk ts = true) : Parse (expL ts) 0 ts := by
  unfold expOk at h
  obtain ⟨r, hr⟩ := Option.isSome_iff_exists.1 h
  obtain ⟨s, h1, h2⟩ := exp_parse hr
  have : expL ts = r := by simp [expL, hr]
  rw [this]; exact h2

theorem expL_listOk (ts : List Tok) : listOk (expL ts) = true := listOk_iff.2 (expL_good ts)

theorem tokOk_iff {t : Tok} {h : Int} : tokOk t h = true ↔ (t.b = 0 ∧ t.m = 0 ∧ 0 ≤ t.s ∧ t.s ≤ 7 ∧ h < 40) ∨ (t.b ≠ 0 ∧ t.s = 0 ∧ 1 ≤ t.b ∧ t.b ≤ min 16 h ∧ 2 ≤ t.m ∧ t.m ≤ 9 ∧ h + t.m ≤ 40) := by
  by_cases hb : t.b = 0
  · unfold tokOk; rw [if_pos hb]; simp only [Bool.and_eq_true, beq_iff_eq, decide_eq_true_eq, inB_iff]
    omega
  · unfold tokOk; rw [if_neg hb]; simp only [Bool.and_eq_true, beq_iff_eq, decide_eq_true_eq, inB_iff]
    omega

theorem tokOk_no {t : Tok} {h : Int} (hn : ¬ ((t.b = 0 ∧ t.m = 0 ∧ 0 ≤ t.s ∧ t.s ≤ 7 ∧ h < 40) ∨ (t.b ≠ 0 ∧ t.s = 0 ∧ 1 ≤ t.b ∧ t.b ≤ min 16 h ∧ 2 ≤ t.m ∧ t.m ≤ 9 ∧ h + t.m ≤ 40))) : tokOk t h = false := by
  cases hb : tokOk t h with
  | false => rfl
  | true => exact absurd (tokOk_iff.1 hb) hn

theorem exp_none {ts : List Tok} (h : expF [] ts = none) : expOk ts = false ∧ expL ts = [] := by simp [expOk, expL, h]
theorem exp_some {ts : List Tok} {r : List Int} (h : expF [] ts = some r) : expOk ts = true ∧ expL ts = r := by simp [expOk, expL, h]
theorem appTok_sym {t : Tok} {out : List Int} (hb : t.b = 0) (hm : t.m = 0) : appTok out t = out ++ [t.s] := by simp [appTok, hb, hm, rep]
theorem appTok_match {t : Tok} {out : List Int} (hb : t.b ≠ 0) : appTok out t = rep out t.b t.m.toNat := by simp [appTok, hb]

/-! ### Costs -/
def tcost (t : Tok) : Int := if t.b = 0 then 4 else 8
def costL : List Tok → Int
  | [] => 0
  | t :: ts => tcost t + costL ts

theorem costL_app : ∀ (ts us : List Tok), costL (ts ++ us) = costL ts + costL us
  | [], us => by simp [costL]
  | t :: ts, us => by simp only [List.cons_append, costL, costL_app ts us]; omega

theorem cst_eq (ts : List Tok) : ∀ k, k ≤ ts.length → cst ts k = costL (ts.take k)
  | 0, _ => rfl
  | k + 1, h => by
    have e : ts.getD k ⟨0, 0, 0⟩ = ts[k] := by simp [List.getD, show k < ts.length by omega]
    rw [List.take_succ_eq_append_getElem (by omega), costL_app, cst, cst_eq ts k (by omega), e]
    simp [costL, tcost]

theorem tokCost_eq (ts : List Tok) (h : expOk ts = true) : tokCost ts = costL ts := by
  unfold tokCost
  rw [if_pos h, cst_eq ts _ (Nat.le_refl _), List.take_length]

/-- The least cost from a place on. -/
def D (xs : List Int) (p : Nat) : Int := gi (ctab xs (xs.length - p)) 0

theorem D_end (xs : List Int) {p : Nat} (h : xs.length ≤ p) : D xs p = 0 := by
  unfold D; rw [show xs.length - p = 0 by omega]; rfl

theorem ctab_at (xs : List Int) : ∀ (r i : Nat), r ≤ xs.length → i ≤ r → gi (ctab xs r) (i : Int) = D xs (xs.length - r + i)
  | r, 0, h, _ => by unfold D; congr 2; omega
  | 0, i + 1, _, h' => by omega
  | r + 1, i + 1, h, h' => by
    have ih := ctab_at xs r i (by omega) (by omega)
    rw [show xs.length - (r + 1) + (i + 1) = xs.length - r + i by omega, ← ih]
    rw [show ctab xs (r + 1) = stepCost xs (xs.length - (r + 1)) (ctab xs r) :: ctab xs r from rfl]
    unfold gi
    rw [show ((i + 1 : Nat) : Int).toNat = i + 1 by omega, show ((i : Nat) : Int).toNat = i by omega]
    simp [List.getD]

theorem D_step {xs : List Int} {p : Nat} (hp : p < xs.length) : D xs p = stepCost xs p (ctab xs (xs.length - p - 1)) := by
  unfold D
  obtain ⟨r, hr⟩ : ∃ r, xs.length - p = r + 1 := ⟨xs.length - p - 1, by omega⟩
  rw [hr, show ctab xs (r + 1) = stepCost xs (xs.length - (r + 1)) (ctab xs r) :: ctab xs r from rfl, show xs.length - (r + 1) = p by omega, show r + 1 - 1 = r by omega]
  rfl

theorem rest_at {xs : List Int} {p : Nat} (hp : p < xs.length) (i : Nat) (h : p + 1 + i ≤ xs.length) : gi (ctab xs (xs.length - p - 1)) (i : Int) = D xs (p + 1 + i) := by
  rw [ctab_at xs _ i (by omega) (by omega)]
  congr 1; omega

/-- A token's cost and what comes behind it. -/
def via (xs : List Int) (p : Nat) (t : Tok) : Int := tcost t + D xs (p + adv t)

theorem kmin_le {rest : List Int} {m : Int} : ∀ j : Nat, kmin rest m j ≤ m ∧ ∀ i, i < j → kmin rest m j ≤ 8 + gi rest ((i : Int) + 1)
  | 0 => ⟨Int.le_refl _, fun i h => by omega⟩
  | j + 1 => by
    obtain ⟨h1, h2⟩ := kmin_le (rest := rest) (m := m) j
    simp only [kmin]
    refine ⟨by omega, fun i hi => ?_⟩
    by_cases e : i = j
    · subst e; omega
    · have := h2 i (by omega); omega

theorem bmin_le {xs : List Int} {p : Nat} {rest : List Int} {m : Int} : ∀ b : Nat, bmin xs p rest m b ≤ m ∧ ∀ b' i : Nat, b' < b → i + 2 ≤ matchLen xs p (b' + 1 : Nat) → bmin xs p rest m b ≤ 8 + gi rest ((i : Int) + 1)
  | 0 => ⟨Int.le_refl _, fun b' i h => by omega⟩
  | b + 1 => by
    obtain ⟨h1, h2⟩ := bmin_le (xs := xs) (p := p) (rest := rest) (m := m) b
    have h3 := kmin_le (rest := rest) (m := bmin xs p rest m b) (matchLen xs p (b + 1 : Nat) - 1)
    simp only [bmin]
    refine ⟨by omega, fun b' i hb hi => ?_⟩
    by_cases e : b' = b
    · subst e; exact h3.2 i (by omega)
    · have := h2 b' i (by omega) hi; omega

/-- No token is better than the least cost. -/
theorem D_via {xs : List Int} {p : Nat} {t : Tok} (h : StepTok xs p t) : D xs p ≤ via xs p t := by
  have hin := step_in h
  have hp : p < xs.length := by have := adv_pos t; omega
  rw [D_step hp]
  have key := bmin_le (xs := xs) (p := p) (rest := ctab xs (xs.length - p - 1)) (m := 4 + gi (ctab xs (xs.length - p - 1)) 0) (min 16 p)
  have r0 := rest_at hp 0 (by omega)
  unfold via tcost stepCost
  rcases h with h | h
  · rw [adv_sym h, if_pos h.1]
    have := key.1
    rw [show ((0 : Nat) : Int) = 0 from rfl] at r0
    rw [r0] at this ⊢
    exact this
  · have e := adv_match h
    obtain ⟨h1, h2, h3, h4, h5, h6⟩ := h
    obtain ⟨b, hb⟩ : ∃ b : Nat, t.b = (b + 1 : Nat) := ⟨t.b.toNat - 1, by omega⟩
    obtain ⟨i, hi⟩ : ∃ i : Nat, t.m.toNat = i + 2 := ⟨t.m.toNat - 2, by omega⟩
    rw [hb, hi] at h6
    have hl := long_of_same (by omega) h6
    have k2 := key.2 b i (by omega) hl
    have hb0 : ¬ t.b = 0 := by omega
    rw [e, hi, if_neg hb0]
    have r1 := rest_at hp (i + 1) (by omega)
    rw [show ((i + 1 : Nat) : Int) = (i : Int) + 1 by omega] at r1
    rw [r1] at k2
    rw [show p + (i + 2) = p + 1 + (i + 1) by omega]
    exact k2

theorem D_nonneg (xs : List Int) (p : Nat) : 0 ≤ D xs p := (ctab_gi xs _ 0).1

theorem least_le {xs : List Int} : ∀ {ts : List Tok} {p : Nat}, Parse xs p ts → D xs p ≤ costL ts
  | [], p, h => by rw [D_end xs (Nat.le_of_eq (Eq.symm h))]; exact Int.le_refl _
  | t :: ts, p, h => by
    have h1 := D_via h.1
    have h2 := least_le h.2
    unfold via at h1
    simp only [costL]; omega

theorem parseLeast_eq {xs : List Int} (hx : listOk xs = true) : parseLeast xs = D xs 0 := by
  unfold parseLeast D; rw [if_pos hx, Nat.sub_zero]

/-! ### The token that is taken -/
/-- The matches ahead of distance b + 1 and length j + 2. -/
def Ahead (xs : List Int) (p b j b' j' : Nat) : Prop := (b' < b ∨ (b' = b ∧ j' < j)) ∧ j' + 2 ≤ matchLen xs p (b' + 1 : Nat)

structure Fst (xs : List Int) (p : Nat) (rest : List Int) (b j : Nat) (q : Int × Tok) : Prop where
  le0 : q.1 ≤ 4 + gi rest 0
  le : ∀ b' j', Ahead xs p b j b' j' → q.1 ≤ 8 + gi rest ((j' : Int) + 1)
  tok : (q.2 = ⟨gi xs p, 0, 0⟩ ∧ q.1 = 4 + gi rest 0) ∨
    ∃ b0 j0 : Nat, Ahead xs p b j b0 j0 ∧ q.2 = ⟨0, (b0 : Int) + 1, (j0 : Int) + 2⟩ ∧ q.1 = 8 + gi rest ((j0 : Int) + 1) ∧ q.1 < 4 + gi rest 0 ∧ ∀ b' j', Ahead xs p b0 j0 b' j' → q.1 < 8 + gi rest ((j' : Int) + 1)

theorem kbest_fst' {xs : List Int} {p : Nat} {rest : List Int} {b : Nat} {q : Int × Tok} (h : Fst xs p rest b 0 q) : ∀ j : Nat, j ≤ matchLen xs p (b + 1 : Nat) - 1 → Fst xs p rest b j (kbest rest ((b : Int) + 1) q j)
  | 0, _ => h
  | j + 1, hj => by
    have ih := kbest_fst' h j (by omega)
    have old : ∀ b' j', Ahead xs p b (j + 1) b' j' → Ahead xs p b j b' j' ∨ (b' = b ∧ j' = j) := by
      rintro b' j' ⟨h1, h2⟩
      unfold Ahead; omega
    by_cases hc : 8 + gi rest ((j : Int) + 1) < (kbest rest ((b : Int) + 1) q j).1
    · rw [kbest_yes hc]
      refine ⟨?_, fun b' j' h' => ?_, .inr ⟨b, j, ⟨.inr ⟨rfl, by omega⟩, by omega⟩, rfl, rfl, ?_, fun b' j' h' => ?_⟩⟩
      · have := ih.le0; dsimp only; omega
      · rcases old b' j' h' with h1 | ⟨_, rfl⟩
        · have := ih.le b' j' h1; dsimp only; omega
        · exact Int.le_refl _
      · have := ih.le0; dsimp only; omega
      · have := ih.le b' j' h'; dsimp only; omega
    · rw [kbest_no hc]
      refine ⟨ih.le0, fun b' j' h' => ?_, ?_⟩
      · rcases old b' j' h' with h1 | ⟨_, rfl⟩
        · exact ih.le b' j' h1
        · omega
      · rcases ih.tok with h1 | ⟨b0, j0, h1, h2⟩
        · exact .inl h1
        · exact .inr ⟨b0, j0, by unfold Ahead at *; omega, h2⟩

theorem bbest_fst' {xs : List Int} {p : Nat} {rest : List Int} : ∀ b : Nat, Fst xs p rest b 0 (bbest xs p rest (4 + gi rest 0, ⟨gi xs p, 0, 0⟩) b)
  | 0 => ⟨Int.le_refl _, fun b' j' h => by unfold Ahead at h; omega, .inl ⟨rfl, rfl⟩⟩
  | b + 1 => by
    have ih := kbest_fst' (bbest_fst' (xs := xs) (p := p) (rest := rest) b) (matchLen xs p (b + 1 : Nat) - 1) (Nat.le_refl _)
    have e : ∀ b' j', Ahead xs p (b + 1) 0 b' j' → Ahead xs p b (matchLen xs p (b + 1 : Nat) - 1) b' j' := by
      rintro b' j' ⟨h1, h2⟩
      refine ⟨?_, h2⟩
      by_cases e : b' = b
      · subst e; exact .inr ⟨rfl, by omega⟩
      · exact .inl (by omega)
    have e' : ∀ b' j', Ahead xs p b (matchLen xs p (b + 1 : Nat) - 1) b' j' → Ahead xs p (b + 1) 0 b' j' := by
      rintro b' j' ⟨h1, h2⟩
      exact ⟨by omega, h2⟩
    refine ⟨ih.le0, fun b' j' h => ih.le b' j' (e b' j' h), ?_⟩
    rcases ih.tok with h1 | ⟨b0, j0, h1, h2⟩
    · exact .inl h1
    · exact .inr ⟨b0, j0, e' _ _ h1, h2⟩

def btok (xs : List Int) (p : Nat) : Tok := firstTok xs p (ctab xs (xs.length - p - 1))

/-- A match as a token. -/
theorem match_of {xs : List Int} {p b j : Nat} (hb : b < min 16 p) (hj : j + 2 ≤ matchLen xs p (b + 1 : Nat)) : MatchTok xs p ⟨0, (b : Int) + 1, (j : Int) + 2⟩ := by
  have := matchLen_le xs p (b + 1 : Nat)
  refine ⟨rfl, by dsimp only; omega, by dsimp only; omega, by dsimp only; omega, by dsimp only; omega, ?_⟩
  dsimp only
  rw [show ((b : Int) + 1) = (b + 1 : Nat) by omega, show ((j : Int) + 2).toNat = j + 2 by omega]
  exact same_of_long hj

theorem via_match {xs : List Int} {p : Nat} (b j : Nat) : via xs p ⟨0, (b : Int) + 1, (j : Int) + 2⟩ = 8 + D xs (p + (j + 2)) := by
  unfold via tcost adv
  rw [if_neg (by dsimp only; omega)]
  congr 2

theorem via_sym {xs : List Int} {p : Nat} (s : Int) : via xs p ⟨s, 0, 0⟩ = 4 + D xs (p + 1) := rfl

/-- What the token at a place is. -/
theorem btok_spec {xs : List Int} {p : Nat} (hp : p < xs.length) :
    (btok xs p = ⟨gi xs p, 0, 0⟩ ∧ D xs p = 4 + D xs (p + 1)) ∨
    ∃ b j : Nat, b < min 16 p ∧ j + 2 ≤ matchLen xs p (b + 1 : Nat) ∧ btok xs p = ⟨0, (b : Int) + 1, (j : Int) + 2⟩ ∧ D xs p = 8 + D xs (p + (j + 2)) ∧ D xs p < 4 + D xs (p + 1) ∧
      ∀ b' j' : Nat, Ahead xs p b j b' j' → D xs p < 8 + D xs (p + (j' + 2)) := by
  have F := bbest_fst' (xs := xs) (p := p) (rest := ctab xs (xs.length - p - 1)) (min 16 p)
  have hD : D xs p = (bbest xs p (ctab xs (xs.length - p - 1)) (4 + gi (ctab xs (xs.length - p - 1)) 0, ⟨gi xs p, 0, 0⟩) (min 16 p)).1 := by
    rw [D_step hp, bbest_fst]; rfl
  have r0 := rest_at hp 0 (by omega)
  rw [show ((0 : Nat) : Int) = 0 from rfl] at r0
  have hr : ∀ b' j' : Nat, j' + 2 ≤ matchLen xs p (b' + 1 : Nat) → gi (ctab xs (xs.length - p - 1)) ((j' : Int) + 1) = D xs (p + (j' + 2)) := by
    intro b' j' h
    have hs := (same_of_long h (j' + 1) (by omega)).1
    have r1 := rest_at hp (j' + 1) (by omega)
    rw [show ((j' + 1 : Nat) : Int) = (j' : Int) + 1 by omega] at r1
    rw [r1]; congr 1; omega
  unfold btok firstTok
  rcases F.tok with ⟨h1, h2⟩ | ⟨b, j, h1, h2, h3, h4, h5⟩
  · exact .inl ⟨h1, by rw [hD, h2, r0]⟩
  · refine .inr ⟨b, j, by unfold Ahead at h1; omega, h1.2, h2, ?_, ?_, fun b' j' h => ?_⟩
    · rw [hD, h3, hr b j h1.2]
    · rw [hD, ← r0]; exact h4
    · rw [hD, ← hr b' j' h.2]; exact h5 b' j' h

theorem btok_step {xs : List Int} (p : Nat) (hp : p < xs.length) : StepTok xs p (btok xs p) := by
  rcases btok_spec hp with ⟨h1, _⟩ | ⟨b, j, h1, h2, h3, _⟩
  · rw [h1]; exact .inl ⟨rfl, rfl, hp, rfl⟩
  · rw [h3]; exact .inr (match_of h1 h2)

theorem btok_via {xs : List Int} {p : Nat} (hp : p < xs.length) : D xs p = via xs p (btok xs p) := by
  rcases btok_spec hp with ⟨h1, h2⟩ | ⟨b, j, h1, h2, h3, h4, _⟩
  · rw [h1, via_sym]; exact h2
  · rw [h3, via_match]; exact h4

/-- How the program finds it. -/
theorem btok_sym {xs : List Int} {p : Nat} (hp : p < xs.length) (h : D xs p = 4 + D xs (p + 1)) : btok xs p = ⟨gi xs p, 0, 0⟩ := by
  rcases btok_spec hp with ⟨h1, h2⟩ | ⟨b, j, h1, h2, h3, h4, h5, _⟩
  · exact h1
  · omega

theorem btok_match {xs : List Int} {p b j : Nat} (hp : p < xs.length) (hb : b < min 16 p) (hj : j + 2 ≤ matchLen xs p (b + 1 : Nat)) (hn : D xs p ≠ 4 + D xs (p + 1)) (he : D xs p = 8 + D xs (p + (j + 2)))
    (h : ∀ b' j' : Nat, Ahead xs p b j b' j' → D xs p ≠ 8 + D xs (p + (j' + 2))) : btok xs p = ⟨0, (b : Int) + 1, (j : Int) + 2⟩ := by
  rcases btok_spec hp with ⟨h1, h2⟩ | ⟨b0, j0, h1, h2, h3, h4, h5, h6⟩
  · exact absurd h2 hn
  · rw [h3]
    have n1 : ¬ Ahead xs p b j b0 j0 := fun ha => h b0 j0 ha h4
    have n2 : ¬ Ahead xs p b0 j0 b j := fun ha => by have := h6 b j ha; omega
    have e1 : b0 = b := by
      by_cases e : b0 < b
      · exact absurd ⟨.inl e, h2⟩ n1
      · by_cases e' : b < b0
        · exact absurd ⟨.inl e', hj⟩ n2
        · omega
    subst e1
    have e2 : j0 = j := by
      by_cases e : j0 < j
      · exact absurd ⟨.inr ⟨rfl, e⟩, h2⟩ n1
      · by_cases e' : j < j0
        · exact absurd ⟨.inr ⟨rfl, e'⟩, hj⟩ n2
        · omega
    rw [e2]

theorem btok_any {xs : List Int} {p : Nat} (hp : p < xs.length) (hn : D xs p ≠ 4 + D xs (p + 1)) (h : ∀ b' j' : Nat, b' < min 16 p → j' + 2 ≤ matchLen xs p (b' + 1 : Nat) → D xs p ≠ 8 + D xs (p + (j' + 2))) : False := by
  rcases btok_spec hp with ⟨h1, h2⟩ | ⟨b0, j0, h1, h2, h3, h4, h5, h6⟩
  · exact hn h2
  · exact h b0 j0 h1 h2 h4

/-- A match of two symbols is not taken. -/
theorem btok_long {xs : List Int} {p : Nat} (hp : p < xs.length) (h : 0 < (btok xs p).b) : 3 ≤ (btok xs p).m := by
  rcases btok_spec hp with ⟨h1, h2⟩ | ⟨b, j, h1, h2, h3, h4, h5, _⟩
  · rw [h1] at h; simp at h
  · rw [h3]
    dsimp only
    by_cases e : j = 0
    · subst e
      have hp1 : p + 1 < xs.length := (same_of_long h2 1 (by omega)).1
      have := D_via (xs := xs) (p := p + 1) (t := ⟨gi xs (p + 1 : Nat), 0, 0⟩) (.inl ⟨rfl, rfl, hp1, rfl⟩)
      rw [via_sym] at this
      rw [show p + (0 + 2) = p + 1 + 1 by omega] at h4
      omega
    · omega

def parseBest (xs : List Int) : List Tok := if listOk xs = true then chain (btok xs) xs.length 0 else []

theorem best_parse {xs : List Int} (hx : listOk xs = true) : Parse xs 0 (parseBest xs) := by
  unfold parseBest
  rw [if_pos hx]
  exact chain_parse btok_step _ 0 (Nat.le_refl _) (Nat.zero_le _)

theorem best_chain {xs : List Int} : ∀ (k p : Nat), xs.length - p ≤ k → p ≤ xs.length → costL (chain (btok xs) xs.length p) = D xs p
  | 0, p, h, h' => by rw [chain_end (by omega), D_end xs (by omega)]; rfl
  | k + 1, p, h, h' => by
    by_cases hp : p < xs.length
    · have h1 := step_in (btok_step p hp)
      have h2 := adv_pos (btok xs p)
      rw [chain_step hp, btok_via hp]
      simp only [costL, via]
      rw [best_chain k _ (by omega) h1]
    · rw [chain_end (by omega), D_end xs (by omega)]; rfl

theorem best_cost {xs : List Int} (hx : listOk xs = true) : costL (parseBest xs) = parseLeast xs := by
  rw [parseLeast_eq hx]
  unfold parseBest
  rw [if_pos hx]
  exact best_chain _ 0 (Nat.le_refl _) (Nat.zero_le _)

theorem ftab_at (xs : List Int) : ∀ (r i : Nat), r ≤ xs.length → i < r → (ftab xs r).getD i ⟨0, 0, 0⟩ = btok xs (xs.length - r + i)
  | 0, i, _, h => by omega
  | r + 1, 0, h, _ => by
    have e1 : xs.length - (xs.length - (r + 1)) - 1 = r := by omega
    simp only [ftab, btok, List.getD_cons_zero, Nat.add_zero, e1]
  | r + 1, i + 1, h, h' => by
    rw [show xs.length - (r + 1) + (i + 1) = xs.length - r + i by omega, ← ftab_at xs r i (by omega) (by omega)]
    simp only [ftab, List.getD_cons_succ]

end Go.Proofs.Ytjbedonncjppfaa
