/-
  The plain functions: the best tokens of a list.
-/
import Derived.Test.YtjbedonncjppfaaPure
namespace Go.Proofs.Ytjbedonncjppfaa
set_option linter.unusedVariables false
set_option linter.unusedSimpArgs false
set_option linter.unnecessarySimpa false

/-- The least of m and of what matches with two to j + 1 symbols come to; 'rest': the costs from the next place on. -/
def kmin (rest : List Int) (m : Int) : Nat → Int
  | 0 => m
  | j + 1 => min (kmin rest m j) (8 + gi rest ((j : Int) + 1))

/-- .. from the first b distances. -/
def bmin (xs : List Int) (p : Nat) (rest : List Int) (m : Int) : Nat → Int
  | 0 => m
  | b + 1 => kmin rest (bmin xs p rest m b) (matchLen xs p (b + 1 : Nat) - 1)

def stepCost (xs : List Int) (p : Nat) (rest : List Int) : Int := bmin xs p rest (4 + gi rest 0) (min 16 p)

/-- The costs from the last r + 1 places on. -/
def ctab (xs : List Int) : Nat → List Int
  | 0 => [0]
  | r + 1 => stepCost xs (xs.length - (r + 1)) (ctab xs r) :: ctab xs r

theorem ctab_length (xs : List Int) : ∀ r, (ctab xs r).length = r + 1
  | 0 => rfl
  | r + 1 => by simp [ctab, ctab_length xs r]

/-- The list of the costs while place p is at work. -/
def outAt (p : Nat) (x : Int) (rest : List Int) : List Int := List.replicate p 0 ++ x :: rest

theorem outAt_length (p : Nat) (x : Int) (rest : List Int) : (outAt p x rest).length = p + 1 + rest.length := by simp [outAt]; omega

theorem outAt_set (p : Nat) (x y : Int) (rest : List Int) : (outAt p x rest).set p y = outAt p y rest := by
  simp [outAt, List.set_append]

theorem outAt_here (p : Nat) (x : Int) (rest : List Int) : gi (outAt p x rest) (p : Int) = x := by
  simp [gi, outAt, List.getD]

theorem outAt_later (p : Nat) (x : Int) (rest : List Int) (k : Int) (hk : 0 ≤ k) : gi (outAt p x rest) ((p : Int) + (k + 1)) = gi rest k := by
  obtain ⟨j, rfl⟩ := Int.eq_ofNat_of_zero_le hk
  have : ((p : Int) + ((j : Int) + 1)).toNat = p + (j + 1) := by omega
  simp only [gi, this, outAt, List.getD]
  rw [List.getElem?_append_right (by simp)]
  simp

theorem outAt_shift (p : Nat) (x : Int) (rest : List Int) : outAt (p + 1) x rest = outAt p 0 (x :: rest) := by
  simp [outAt, List.replicate_succ']

theorem outAt_zero (n : Nat) : List.replicate (n + 1) (0 : Int) = outAt n 0 [] := by simp [outAt, List.replicate_succ']

theorem kmin_bd {rest : List Int} {m : Int} (hm : 0 ≤ m) (hr : ∀ i : Int, 0 ≤ gi rest i) : ∀ j, 0 ≤ kmin rest m j ∧ kmin rest m j ≤ m
  | 0 => by simp [kmin, hm]
  | j + 1 => by
    have ih := kmin_bd (m := m) hm hr j
    have := hr ((j : Int) + 1)
    simp only [kmin]
    omega

theorem bmin_bd {xs : List Int} {p : Nat} {rest : List Int} {m : Int} (hm : 0 ≤ m) (hr : ∀ i : Int, 0 ≤ gi rest i) : ∀ b, 0 ≤ bmin xs p rest m b ∧ bmin xs p rest m b ≤ m
  | 0 => by simp [bmin, hm]
  | b + 1 => by
    have ih := bmin_bd (xs := xs) (p := p) (m := m) hm hr b
    have := kmin_bd (m := bmin xs p rest m b) ih.1 hr (matchLen xs p (b + 1 : Nat) - 1)
    simp only [bmin]
    omega

theorem gi_of_all {lo hi : Int} (hlo : lo ≤ 0) (hhi : 0 ≤ hi) {xs : List Int} (h : allIn lo hi xs = true) (i : Int) : lo ≤ gi xs i ∧ gi xs i ≤ hi := by
  unfold gi
  by_cases hk : i.toNat < xs.length
  · have := List.all_eq_true.1 h (xs[i.toNat]) (List.getElem_mem hk)
    simp only [List.getD, List.getElem?_eq_getElem hk, Option.getD_some]
    exact inB_iff.1 this
  · simp only [List.getD, List.getElem?_eq_none (by omega : xs.length ≤ i.toNat), Option.getD_none]
    exact ⟨hlo, hhi⟩

theorem allIn_mono {lo hi hi' : Int} (hh : hi ≤ hi') {xs : List Int} (h : allIn lo hi xs = true) : allIn lo hi' xs = true :=
  List.all_eq_true.2 fun x hx => by
    have := inB_iff.1 (List.all_eq_true.1 h x hx)
    exact inB_yes ⟨this.1, by omega⟩

theorem ctab_bd (xs : List Int) : ∀ r : Nat, allIn 0 (4 * r) (ctab xs r) = true
  | 0 => by simp [ctab, allIn, inB]
  | r + 1 => by
    have ih := ctab_bd xs r
    have h0 := gi_of_all (by omega) (by omega) ih 0
    have hr : ∀ i : Int, 0 ≤ gi (ctab xs r) i := fun i => (gi_of_all (by omega) (by omega) ih i).1
    have hb := bmin_bd (xs := xs) (p := xs.length - (r + 1)) (rest := ctab xs r) (m := 4 + gi (ctab xs r) 0) (by omega) hr (min 16 (xs.length - (r + 1)))
    simp only [ctab, allIn, List.all_cons, Bool.and_eq_true]
    refine ⟨inB_yes ?_, allIn_mono (by omega) ih⟩
    simp only [stepCost]
    omega

theorem ctab_gi (xs : List Int) (r : Nat) (i : Int) : 0 ≤ gi (ctab xs r) i ∧ gi (ctab xs r) i ≤ 4 * r := gi_of_all (by omega) (by omega) (ctab_bd xs r) i

def parseLeast (xs : List Int) : Int := if listOk xs then gi (ctab xs xs.length) 0 else -1

/-! ### The token to begin with -/
def kbest (rest : List Int) (back : Int) (q : Int × Tok) : Nat → Int × Tok
  | 0 => q
  | j + 1 => if 8 + gi rest ((j : Int) + 1) < (kbest rest back q j).1 then (8 + gi rest ((j : Int) + 1), ⟨0, back, (j : Int) + 2⟩) else kbest rest back q j

def bbest (xs : List Int) (p : Nat) (rest : List Int) (q : Int × Tok) : Nat → Int × Tok
  | 0 => q
  | b + 1 => kbest rest ((b : Int) + 1) (bbest xs p rest q b) (matchLen xs p (b + 1 : Nat) - 1)

theorem kbest_fst {rest : List Int} {back : Int} {q : Int × Tok} : ∀ j, (kbest rest back q j).1 = kmin rest q.1 j
  | 0 => rfl
  | j + 1 => by
    have ih := kbest_fst (rest := rest) (back := back) (q := q) j
    simp only [kbest, kmin]
    split <;> rename_i h <;> rw [ih] at h
    · dsimp only; omega
    · rw [ih]; omega

theorem bbest_fst {xs : List Int} {p : Nat} {rest : List Int} {q : Int × Tok} : ∀ b, (bbest xs p rest q b).1 = bmin xs p rest q.1 b
  | 0 => rfl
  | b + 1 => by
    simp only [bbest, bmin]
    rw [kbest_fst, bbest_fst b]

theorem kbest_yes {rest : List Int} {back : Int} {q : Int × Tok} {j : Nat} (h : 8 + gi rest ((j : Int) + 1) < (kbest rest back q j).1) : kbest rest back q (j + 1) = (8 + gi rest ((j : Int) + 1), ⟨0, back, (j : Int) + 2⟩) := by
  simp only [kbest]; rw [if_pos h]
theorem kbest_no {rest : List Int} {back : Int} {q : Int × Tok} {j : Nat} (h : ¬ 8 + gi rest ((j : Int) + 1) < (kbest rest back q j).1) : kbest rest back q (j + 1) = kbest rest back q j := by
  simp only [kbest]; rw [if_neg h]

def firstTok (xs : List Int) (p : Nat) (rest : List Int) : Tok := (bbest xs p rest (4 + gi rest 0, ⟨gi xs p, 0, 0⟩) (min 16 p)).2

def ftab (xs : List Int) : Nat → List Tok
  | 0 => []
  | r + 1 => firstTok xs (xs.length - (r + 1)) (ctab xs r) :: ftab xs r

theorem ftab_length (xs : List Int) : ∀ r, (ftab xs r).length = r
  | 0 => rfl
  | r + 1 => by simp [ftab, ftab_length xs r]

def tokAt (p : Nat) (t : Tok) (rest : List Tok) : List Tok := List.replicate p ⟨0, 0, 0⟩ ++ t :: rest

theorem tokAt_length (p : Nat) (t : Tok) (rest : List Tok) : (tokAt p t rest).length = p + 1 + rest.length := by simp [tokAt]; omega
theorem tokAt_set (p : Nat) (t u : Tok) (rest : List Tok) : (tokAt p t rest).set p u = tokAt p u rest := by simp [tokAt, List.set_append]

end Go.Proofs.Ytjbedonncjppfaa
