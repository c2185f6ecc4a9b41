/-
  The plain functions: what tokens stand for.
-/
import Derived.Test.YtjbedonncjppfaaPure2
namespace Go.Proofs.Ytjbedonncjppfaa
set_option linter.unusedVariables false
set_option linter.unusedSimpArgs false
set_option linter.unnecessarySimpa false

def tokAtL (ts : List Tok) (i : Nat) : Tok := ts.getD i ⟨0, 0, 0⟩

/-- May a token stand behind h symbols? -/
def tokOk (t : Tok) (h : Int) : Bool :=
  if t.b = 0 then t.m == 0 && (inB 0 7 t.s && decide (h < 40)) else t.s == 0 && (inB 1 (min 16 h) t.b && (inB 2 9 t.m && decide (h + t.m ≤ 40)))

/-- A match repeats symbols. -/
def rep (out : List Int) (b : Int) : Nat → List Int
  | 0 => out
  | n + 1 => rep out b n ++ [gi (rep out b n) ((rep out b n).length - b)]

def appTok (out : List Int) (t : Tok) : List Int := rep (if t.b = 0 then out ++ [t.s] else out) t.b t.m.toNat

def expF : List Int → List Tok → Option (List Int)
  | out, [] => some out
  | out, t :: ts => if tokOk t out.length = true then expF (appTok out t) ts else none

/-- The symbols of tokens. -/
def expL (ts : List Tok) : List Int := (expF [] ts).getD []
def expOk (ts : List Tok) : Bool := (expF [] ts).isSome

theorem rep_length (out : List Int) (b : Int) : ∀ n, (rep out b n).length = out.length + n
  | 0 => rfl
  | n + 1 => by simp [rep, rep_length out b n]; omega

theorem allIn_gi0 {lo hi : Int} {xs : List Int} (h : allIn lo hi xs = true) (h0 : lo ≤ 0) (h1 : 0 ≤ hi) (i : Int) : lo ≤ gi xs i ∧ gi xs i ≤ hi := by
  unfold gi
  by_cases hi' : i.toNat < xs.length
  · rw [List.getD_eq_getElem?_getD, List.getElem?_eq_getElem hi', Option.getD_some]
    exact inB_iff.1 (List.all_eq_true.1 h _ (List.getElem_mem hi'))
  · rw [List.getD_eq_getElem?_getD, List.getElem?_eq_none (by omega)]
    exact ⟨h0, h1⟩

theorem allIn_snoc {lo hi : Int} {xs : List Int} {x : Int} (h : allIn lo hi xs = true) (hx : inB lo hi x = true) : allIn lo hi (xs ++ [x]) = true := by
  simp only [allIn, List.all_append, List.all_cons, List.all_nil, Bool.and_true, Bool.and_eq_true] at *
  exact ⟨h, hx⟩

theorem rep_in {out : List Int} {b : Int} (h : allIn 0 7 out = true) : ∀ n, allIn 0 7 (rep out b n) = true
  | 0 => h
  | n + 1 => allIn_snoc (rep_in h n) (inB_iff.2 (allIn_gi0 (rep_in h n) (by omega) (by omega) _))

/-- Symbols so far. -/
def Good (out : List Int) : Prop := out.length ≤ 40 ∧ allIn 0 7 out = true

theorem tokOk_lit {t : Tok} {h : Int} (hk : tokOk t h = true) (hb : t.b = 0) : t.m = 0 ∧ (0 ≤ t.s ∧ t.s ≤ 7) ∧ h < 40 := by
  simp only [tokOk, hb, if_true, Bool.and_eq_true, beq_iff_eq, decide_eq_true_eq, inB_iff] at hk
  exact hk

theorem tokOk_match {t : Tok} {h : Int} (hk : tokOk t h = true) (hb : t.b ≠ 0) : t.s = 0 ∧ (1 ≤ t.b ∧ t.b ≤ min 16 h) ∧ (2 ≤ t.m ∧ t.m ≤ 9) ∧ h + t.m ≤ 40 := by
  simp only [tokOk, hb, if_false, Bool.and_eq_true, beq_iff_eq, decide_eq_true_eq, inB_iff] at hk
  exact hk

theorem good_app {out : List Int} {t : Tok} (hg : Good out) (hk : tokOk t out.length = true) : Good (appTok out t) := by
  unfold appTok
  by_cases hb : t.b = 0
  · obtain ⟨h1, h2, h3⟩ := tokOk_lit hk hb
    rw [if_pos hb]
    refine ⟨?_, rep_in (allIn_snoc hg.2 (inB_iff.2 h2)) _⟩
    rw [rep_length, h1]; simp; omega
  · obtain ⟨h1, h2, h3, h4⟩ := tokOk_match hk hb
    rw [if_neg hb]
    refine ⟨?_, rep_in hg.2 _⟩
    rw [rep_length]; omega

theorem expF_good : ∀ {ts : List Tok} {out r : List Int}, Good out → expF out ts = some r → Good r
  | [], out, r, h, e => by simp [expF] at e; exact e ▸ h
  | t :: ts, out, r, h, e => by
    unfold expF at e
    by_cases hk : tokOk t out.length = true
    · rw [if_pos hk] at e; exact expF_good (good_app h hk) e
    · rw [if_neg hk] at e; cases e

theorem expL_good (ts : List Tok) : Good (expL ts) := by
  unfold expL
  cases h : expF [] ts with
  | none => exact ⟨by simp, by simp [allIn]⟩
  | some r => exact expF_good (ts := ts) (out := []) ⟨by simp, by simp [allIn]⟩ h

theorem expF_at {ts : List Tok} {k : Nat} (h : k < ts.length) (out : List Int) : expF out (ts.drop k) = if tokOk (ts.getD k ⟨0, 0, 0⟩) out.length = true then expF (appTok out (ts.getD k ⟨0, 0, 0⟩)) (ts.drop (k + 1)) else none := by
  rw [List.drop_eq_getElem_cons h]
  have e : ts.getD k ⟨0, 0, 0⟩ = ts[k] := by simp [List.getD, h]
  rw [e, expF]

/-- The longest match. -/
def lng (ts : List Tok) : Nat → Int
  | 0 => 0
  | k + 1 => max (lng ts k) (ts.getD k ⟨0, 0, 0⟩).m
/-- What tokens cost. -/
def cst (ts : List Tok) : Nat → Int
  | 0 => 0
  | k + 1 => cst ts k + (if (ts.getD k ⟨0, 0, 0⟩).b = 0 then 4 else 8)

def longest (ts : List Tok) : Int := if expOk ts = true then lng ts ts.length else -1
def tokCost (ts : List Tok) : Int := if expOk ts = true then cst ts ts.length else -1

theorem cst_bd (ts : List Tok) : ∀ k, 0 ≤ cst ts k ∧ cst ts k ≤ 8 * k
  | 0 => by simp [cst]
  | k + 1 => by
    have ih := cst_bd ts k
    simp only [cst]
    split <;> omega

/-- Of tokens that can be read, each is a symbol or a match. -/
theorem expF_kind : ∀ {ts : List Tok} {out : List Int}, (expF out ts).isSome = true → ∀ t ∈ ts, (t.b = 0 ↔ t.m = 0)
  | [], _, _, t, ht => by cases ht
  | u :: ts, out, h, t, ht => by
    unfold expF at h
    by_cases hk : tokOk u out.length = true
    · rw [if_pos hk] at h
      rcases List.mem_cons.1 ht with rfl | ht
      · constructor
        · intro hb; exact (tokOk_lit hk hb).1
        · intro hm
          refine Classical.byContradiction fun hb => ?_
          have := (tokOk_match hk hb).2.2.1
          omega
      · exact expF_kind h t ht
    · rw [if_neg hk] at h; cases h

end Go.Proofs.Ytjbedonncjppfaa
