/-
  Plain facts: how many symbols tokens have, the first tokens, the longest match, matches that are none.
-/
import Derived.Test.YtjbedonncjppfaaPureQ
namespace Go.Proofs.Ytjbedonncjppfaa
set_option linter.unusedVariables false
set_option linter.unusedSimpArgs false
set_option linter.unnecessarySimpa false

/-- How many symbols the first k tokens have. -/
def advS (ts : List Tok) : Nat → Int
  | 0 => 0
  | k + 1 => advS ts k + max (ts.getD k ⟨0, 0, 0⟩).m 1

theorem sumAdv_take (ts : List Tok) : ∀ k, k ≤ ts.length → advS ts k = (((ts.take k).map adv).sum : Nat)
  | 0, _ => rfl
  | k + 1, h => by
    have e : ts.getD k ⟨0, 0, 0⟩ = ts[k] := by simp [List.getD, show k < ts.length by omega]
    rw [List.take_succ_eq_append_getElem (by omega), List.map_append, List.sum_append_nat, advS, sumAdv_take ts k (by omega), e]
    simp [adv]; omega

theorem parse_len {xs : List Int} : ∀ {ts : List Tok} {p : Nat}, Parse xs p ts → p + (ts.map adv).sum = xs.length
  | [], p, h => by simpa [Parse] using h
  | t :: ts, p, h => by
    have := parse_len h.2
    simp only [List.map_cons, List.sum_cons]; omega

theorem exp_len {ts : List Tok} (h : expOk ts = true) : advS ts ts.length = (expL ts).length := by
  rw [sumAdv_take ts _ (Nat.le_refl _), List.take_length]
  have := parse_len (exp_parse0 h)
  omega

theorem tok_kind {ts : List Tok} {xs : List Int} : ∀ {p : Nat}, Parse xs p ts → ∀ t ∈ ts, (t.b = 0 ∧ t.m = 0) ∨ (1 ≤ t.b ∧ t.b ≤ 16 ∧ 2 ≤ t.m ∧ t.m ≤ 9) := by
  induction ts with
  | nil => intro p _ t ht; cases ht
  | cons u ts ih =>
    intro p h t ht
    rcases List.mem_cons.1 ht with rfl | ht
    · rcases h.1 with h1 | h1
      · exact .inl ⟨h1.1, h1.2.1⟩
      · obtain ⟨_, h2, h3, h4, h5, _⟩ := h1
        exact .inr ⟨h2, by omega, h4, h5⟩
    · exact ih h.2 t ht

theorem exp_kind {ts : List Tok} (h : expOk ts = true) : ∀ t ∈ ts, (t.b = 0 ∧ t.m = 0) ∨ (1 ≤ t.b ∧ t.b ≤ 16 ∧ 2 ≤ t.m ∧ t.m ≤ 9) := tok_kind (exp_parse0 h)

theorem exp_kindAt {ts : List Tok} (h : expOk ts = true) {k : Nat} (hk : k < ts.length) : ((ts.getD k ⟨0, 0, 0⟩).b = 0 ∧ (ts.getD k ⟨0, 0, 0⟩).m = 0) ∨ (1 ≤ (ts.getD k ⟨0, 0, 0⟩).b ∧ (ts.getD k ⟨0, 0, 0⟩).b ≤ 16 ∧ 2 ≤ (ts.getD k ⟨0, 0, 0⟩).m ∧ (ts.getD k ⟨0, 0, 0⟩).m ≤ 9) := by
  have e : ts.getD k ⟨0, 0, 0⟩ = ts[k] := by simp [List.getD, hk]
  rw [e]; exact exp_kind h _ (List.getElem_mem hk)

theorem advS_bd {ts : List Tok} (h : expOk ts = true) : ∀ k, k ≤ ts.length → 0 ≤ advS ts k ∧ advS ts k ≤ 9 * k
  | 0, _ => by simp [advS]
  | k + 1, hk => by
    have ih := advS_bd h k (by omega)
    have := exp_kindAt h (k := k) (by omega)
    simp only [advS]; omega

/-! ### The first tokens -/
theorem expF_append : ∀ (ts us : List Tok) (out : List Int), expF out (ts ++ us) = (expF out ts).bind fun o => expF o us
  | [], us, out => rfl
  | t :: ts, us, out => by
    simp only [List.cons_append, expF]
    by_cases hk : tokOk t out.length = true
    · rw [if_pos hk, if_pos hk]; exact expF_append ts us _
    · rw [if_neg hk, if_neg hk]; rfl

theorem expF_grow {ts : List Tok} {out r : List Int} (h : expF out ts = some r) : ∃ s, r = out ++ s := by
  obtain ⟨s, hs, _⟩ := exp_parse h
  exact ⟨s, hs⟩

theorem exp_first {ts : List Tok} (h : expOk ts = true) (k : Nat) : expOk (ts.take k) = true ∧ (expL (ts.take k)).length ≤ (expL ts).length ∧ expL (ts.take k) = (expL ts).take (expL (ts.take k)).length := by
  obtain ⟨r, hr⟩ := Option.isSome_iff_exists.1 (show (expF [] ts).isSome = true from h)
  have h1 := hr
  rw [← List.take_append_drop k ts, expF_append] at h1
  obtain ⟨o, ho, h2⟩ := Option.bind_eq_some_iff.1 h1
  obtain ⟨s, hs⟩ := expF_grow h2
  obtain ⟨e1, e2⟩ := exp_some hr
  obtain ⟨e3, e4⟩ := exp_some ho
  rw [e2, e4, hs]
  exact ⟨e3, by simp, by simp⟩

/-! ### The longest match -/
theorem lng_ge (ts : List Tok) : ∀ k i, i < k → (ts.getD i ⟨0, 0, 0⟩).m ≤ lng ts k
  | 0, i, h => by omega
  | k + 1, i, h => by
    simp only [lng]
    by_cases e : i = k
    · subst e; omega
    · have := lng_ge ts k i (by omega); omega
theorem lng_nonneg (ts : List Tok) : ∀ k, 0 ≤ lng ts k
  | 0 => by simp [lng]
  | k + 1 => by have := lng_nonneg ts k; simp only [lng]; omega
theorem lng_is (ts : List Tok) : ∀ k, lng ts k = 0 ∨ ∃ i, i < k ∧ (ts.getD i ⟨0, 0, 0⟩).m = lng ts k
  | 0 => .inl rfl
  | k + 1 => by
    simp only [lng]
    by_cases h : (ts.getD k ⟨0, 0, 0⟩).m ≤ lng ts k
    · rcases lng_is ts k with h1 | ⟨i, h1, h2⟩
      · left; omega
      · right; exact ⟨i, by omega, by omega⟩
    · right; exact ⟨k, by omega, by omega⟩
theorem lng_le {ts : List Tok} (h : expOk ts = true) : ∀ k, k ≤ ts.length → lng ts k ≤ 9
  | 0, _ => by simp [lng]
  | k + 1, hk => by
    have ih := lng_le h k (by omega)
    have := exp_kindAt h (k := k) (by omega)
    simp only [lng]; omega
/-- Is one of the first k matches of this length? -/
def hasM (ts : List Tok) (o : Int) : Nat → Bool
  | 0 => decide (o = 0)
  | k + 1 => hasM ts o k || decide ((ts.getD k ⟨0, 0, 0⟩).m = o)
theorem hasM_of {ts : List Tok} {o : Int} : ∀ {k i : Nat}, i < k → (ts.getD i ⟨0, 0, 0⟩).m = o → hasM ts o k = true
  | 0, i, h, _ => by omega
  | k + 1, i, h, e => by
    simp only [hasM]
    by_cases h1 : i = k
    · subst h1; rw [decide_eq_true e, Bool.or_true]
    · rw [hasM_of (k := k) (i := i) (by omega) e]; rfl
theorem hasM_zero {ts : List Tok} : ∀ k, hasM ts 0 k = true
  | 0 => by simp [hasM]
  | k + 1 => by simp [hasM, hasM_zero k]
theorem hasM_lng (ts : List Tok) (k : Nat) : hasM ts (lng ts k) k = true := by
  rcases lng_is ts k with h | ⟨i, h1, h2⟩
  · rw [h]; exact hasM_zero k
  · exact hasM_of h1 h2
theorem longest_eq {ts : List Tok} (h : 0 ≤ longest ts) : expOk ts = true ∧ longest ts = lng ts ts.length := by
  unfold longest at h ⊢
  by_cases hk : expOk ts = true
  · rw [if_pos hk]; exact ⟨hk, rfl⟩
  · rw [if_neg hk] at h; omega
theorem longest_ge (ts : List Tok) : -1 ≤ longest ts := by
  unfold longest
  split
  · have := lng_nonneg ts ts.length; omega
  · omega
theorem longest_le (ts : List Tok) : longest ts ≤ 9 := by
  unfold longest
  split
  · rename_i h; exact lng_le h _ (Nat.le_refl _)
  · omega

/-! ### Costs -/
theorem tokCost_ok {ts : List Tok} (h : 0 ≤ tokCost ts) : expOk ts = true ∧ tokCost ts = cst ts ts.length := by
  unfold tokCost at h ⊢
  by_cases hk : expOk ts = true
  · rw [if_pos hk]; exact ⟨hk, rfl⟩
  · rw [if_neg hk] at h; omega
theorem least_cost {ts : List Tok} (h : expOk ts = true) : 0 ≤ parseLeast (expL ts) ∧ parseLeast (expL ts) ≤ tokCost ts := by
  have hx := expL_listOk ts
  refine ⟨parseLeast_nonneg hx, ?_⟩
  rw [parseLeast_eq hx, tokCost_eq ts h]
  exact least_le (exp_parse0 h)

/-! ### A match that is none -/
/-- Does one of the first k symbols equal x? -/
def seenB (xs : List Int) (x : Int) : Nat → Bool
  | 0 => false
  | k + 1 => seenB xs x k || decide (gi xs k = x)
theorem seenB_of {xs : List Int} {x : Int} : ∀ {k i : Nat}, i < k → gi xs i = x → seenB xs x k = true
  | 0, i, h, _ => by omega
  | k + 1, i, h, e => by
    simp only [seenB]
    by_cases h1 : i = k
    · subst h1; rw [decide_eq_true e, Bool.or_true]
    · rw [seenB_of (k := k) (i := i) (by omega) e]; rfl
theorem match_seen {xs : List Int} {p : Nat} {t : Tok} (h : MatchTok xs p t) : seenB xs (gi xs p) p = true := by
  obtain ⟨_, h2, h3, h4, _, h6⟩ := h
  have h7 := (h6 0 (by omega)).2
  refine seenB_of (i := p - t.b.toNat) (by omega) ?_
  rw [show ((p : Int) + (0 : Nat)) = (p : Int) by omega] at h7
  rw [h7]; congr 1; omega
theorem greedy_first {xs : List Int} (hx : listOk xs = true) (hp : 0 < xs.length) : ∃ rest, greedy xs = ⟨gi xs 0, 0, 0⟩ :: rest := by
  unfold greedy
  rw [if_pos hx, chain_step hp]
  refine ⟨_, congrArg (· :: _) ?_⟩
  unfold gtok
  rw [if_neg]
  · rfl
  · rw [show ((0 : Nat) : Int) = (0 : Int) from rfl] 
    have := matchAt_eq hx hp
    rw [show ((0 : Nat) : Int) = (0 : Int) from rfl] at this
    rw [this]; simp [mbest]
end Go.Proofs.Ytjbedonncjppfaa
