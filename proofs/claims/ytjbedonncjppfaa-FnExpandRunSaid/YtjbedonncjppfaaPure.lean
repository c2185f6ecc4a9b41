/-
  The plain functions: what the program computes, in lists and integers.
-/
namespace Go.Proofs.Ytjbedonncjppfaa
set_option linter.unusedVariables false
set_option linter.unusedSimpArgs false
set_option linter.unnecessarySimpa false

def gi (xs : List Int) (i : Int) : Int := xs.getD i.toNat 0

theorem gi_nat {xs : List Int} {k : Nat} (h : k < xs.length) : gi xs (k : Int) = xs[k] := by simp [gi, List.getD, h]

def inB (lo hi n : Int) : Bool := decide (lo ≤ n) && decide (n ≤ hi)

theorem inB_iff {lo hi n : Int} : inB lo hi n = true ↔ lo ≤ n ∧ n ≤ hi := by simp [inB]

theorem inB_yes {lo hi n : Int} (h : lo ≤ n ∧ n ≤ hi) : inB lo hi n = true := inB_iff.2 h
theorem inB_no {lo hi n : Int} (h : n < lo ∨ hi < n) : inB lo hi n = false := by
  cases hb : inB lo hi n with
  | false => rfl
  | true => have := inB_iff.1 hb; omega

def allIn (lo hi : Int) (xs : List Int) : Bool := xs.all (inB lo hi)

theorem take_succ_gi {xs : List Int} {k : Nat} (h : k < xs.length) : xs.take (k + 1) = xs.take k ++ [gi xs k] := by
  rw [List.take_succ_eq_append_getElem h, gi_nat h]

theorem allIn_take {lo hi : Int} {xs : List Int} {k : Nat} (h : k < xs.length) : allIn lo hi (xs.take (k + 1)) = (allIn lo hi (xs.take k) && inB lo hi (gi xs k)) := by
  rw [take_succ_gi h]; simp [allIn]

theorem allIn_no {lo hi : Int} {xs : List Int} {k : Nat} (h : k < xs.length) (hn : inB lo hi (gi xs k) = false) : allIn lo hi xs = false := by
  cases hb : allIn lo hi xs with
  | false => rfl
  | true =>
    have := List.all_eq_true.1 hb (xs[k]) (List.getElem_mem h)
    rw [gi_nat h] at hn
    rw [hn] at this; cases this

theorem allIn_gi {lo hi : Int} {xs : List Int} (h : allIn lo hi xs = true) {i : Int} (h0 : 0 ≤ i) (h1 : i < xs.length) : lo ≤ gi xs i ∧ gi xs i ≤ hi := by
  obtain ⟨k, rfl⟩ := Int.eq_ofNat_of_zero_le h0
  have hk : k < xs.length := by omega
  have := List.all_eq_true.1 h (xs[k]) (List.getElem_mem hk)
  rw [gi_nat hk]
  exact inB_iff.1 this

theorem sum_take {xs : List Int} {k : Nat} (h : k < xs.length) : (xs.take (k + 1)).sum = (xs.take k).sum + gi xs k := by
  rw [take_succ_gi h]; simp

/-- A sum of numbers in a range. -/
theorem sum_bd {lo hi : Int} : ∀ {xs : List Int}, allIn lo hi xs = true → lo * xs.length ≤ xs.sum ∧ xs.sum ≤ hi * xs.length
  | [], _ => by simp
  | x :: xs, h => by
    simp only [allIn, List.all_cons, Bool.and_eq_true] at h
    have ih := sum_bd (xs := xs) h.2
    have hx := inB_iff.1 h.1
    simp only [List.sum_cons, List.length_cons, Int.natCast_add, Int.mul_add]
    omega

theorem allIn_take_of {lo hi : Int} {xs : List Int} (h : allIn lo hi xs = true) (k : Nat) : allIn lo hi (xs.take k) = true :=
  List.all_eq_true.2 fun x hx => List.all_eq_true.1 h x (List.mem_of_mem_take hx)

theorem sum_take_bd {lo hi : Int} {xs : List Int} (h : allIn lo hi xs = true) (k : Nat) (hk : k ≤ xs.length) : lo * k ≤ (xs.take k).sum ∧ (xs.take k).sum ≤ hi * k := by
  have := sum_bd (allIn_take_of h k)
  rw [List.length_take, Nat.min_eq_left hk] at this
  exact this

def countsOk (xs : List Int) : Bool := decide ((xs.length : Int) = 8) && allIn 0 999 xs
def listOk (xs : List Int) : Bool := decide ((xs.length : Int) ≤ 40) && allIn 0 7 xs
def lengthsOk (xs : List Int) : Bool := decide ((xs.length : Int) = 8) && allIn 0 8 xs
def bitsOk (xs : List Int) : Bool := decide ((xs.length : Int) ≤ 600) && allIn 0 1 xs
def freqsOk (xs : List Int) : Bool := countsOk xs && decide (xs.sum = 32)

theorem countsOk_iff {xs : List Int} : countsOk xs = true ↔ xs.length = 8 ∧ allIn 0 999 xs = true := by
  simp only [countsOk, Bool.and_eq_true, decide_eq_true_eq]
  exact ⟨fun ⟨a, b⟩ => ⟨by omega, b⟩, fun ⟨a, b⟩ => ⟨by omega, b⟩⟩
theorem listOk_iff {xs : List Int} : listOk xs = true ↔ xs.length ≤ 40 ∧ allIn 0 7 xs = true := by
  simp only [listOk, Bool.and_eq_true, decide_eq_true_eq]
  exact ⟨fun ⟨a, b⟩ => ⟨by omega, b⟩, fun ⟨a, b⟩ => ⟨by omega, b⟩⟩
theorem lengthsOk_iff {xs : List Int} : lengthsOk xs = true ↔ xs.length = 8 ∧ allIn 0 8 xs = true := by
  simp only [lengthsOk, Bool.and_eq_true, decide_eq_true_eq]
  exact ⟨fun ⟨a, b⟩ => ⟨by omega, b⟩, fun ⟨a, b⟩ => ⟨by omega, b⟩⟩

/-- How much a code of this length takes. -/
def part (l : Int) : Int := if 0 < l then (2 : Int) ^ (8 - l).toNat else 0
def kraft (xs : List Int) : Int := (xs.map part).sum
def kraftOf (xs : List Int) : Int := if lengthsOk xs then kraft xs else -1
def lengthsValid (xs : List Int) : Bool := inB 1 256 (kraftOf xs)

theorem kraft_take {xs : List Int} {k : Nat} (h : k < xs.length) : kraft (xs.take (k + 1)) = kraft (xs.take k) + part (gi xs k) := by
  rw [take_succ_gi h]; simp [kraft]

theorem part_bd (l : Int) (h0 : 0 ≤ l) (h1 : l ≤ 8) : 0 ≤ part l ∧ part l ≤ 128 := by
  have : l = 0 ∨ l = 1 ∨ l = 2 ∨ l = 3 ∨ l = 4 ∨ l = 5 ∨ l = 6 ∨ l = 7 ∨ l = 8 := by omega
  rcases this with rfl | rfl | rfl | rfl | rfl | rfl | rfl | rfl | rfl <;> decide

theorem kraft_bd : ∀ {xs : List Int}, allIn 0 8 xs = true → 0 ≤ kraft xs ∧ kraft xs ≤ 128 * xs.length
  | [], _ => by simp [kraft]
  | x :: xs, h => by
    simp only [allIn, List.all_cons, Bool.and_eq_true] at h
    have ih := kraft_bd (xs := xs) h.2
    have hx := inB_iff.1 h.1
    have := part_bd x hx.1 hx.2
    simp only [kraft, List.map_cons, List.sum_cons, List.length_cons] at ih ⊢
    omega

theorem kraft_take_bd {xs : List Int} (h : allIn 0 8 xs = true) (k : Nat) (hk : k ≤ xs.length) : 0 ≤ kraft (xs.take k) ∧ kraft (xs.take k) ≤ 128 * k := by
  have := kraft_bd (allIn_take_of h k)
  rw [List.length_take, Nat.min_eq_left hk] at this
  exact this

theorem set_copy {xs : List Int} {k : Nat} (h : k < xs.length) :
    (xs.take k ++ List.replicate (xs.length - k) 0).set k (gi xs k) = xs.take (k + 1) ++ List.replicate (xs.length - (k + 1)) 0 := by
  rw [take_succ_gi h, List.append_assoc, List.set_append_right _ _ (by simp; omega)]
  congr 1
  have e : xs.length - k = (xs.length - (k + 1)) + 1 := by omega
  rw [e, List.replicate_succ]
  simp [Nat.min_eq_left (Nat.le_of_lt h)]

/-- Two lists alike. -/
def same (xs ys : List Int) : Bool := decide (xs = ys)

theorem same_self (xs : List Int) : same xs xs = true := by simp [same]

theorem same_no {xs ys : List Int} {k : Nat} (h : k < xs.length) (hy : k < ys.length) (hn : ¬ gi xs k = gi ys k) : same xs ys = false := by
  simp only [same, decide_eq_false_iff_not]
  rintro rfl
  exact hn rfl

theorem take_eq_succ {xs ys : List Int} {k : Nat} (h : k < xs.length) (hy : k < ys.length) (he : xs.take k = ys.take k) (hn : gi xs k = gi ys k) : xs.take (k + 1) = ys.take (k + 1) := by
  rw [take_succ_gi h, take_succ_gi hy, he, hn]

def power (n : Int) : Int := 2 ^ n.toNat

theorem shr_part {l : Int} (h0 : 0 < l) (h1 : l ≤ 8) : (256 : Int) / 2 ^ l.toNat = part l := by
  have : l = 1 ∨ l = 2 ∨ l = 3 ∨ l = 4 ∨ l = 5 ∨ l = 6 ∨ l = 7 ∨ l = 8 := by omega
  rcases this with rfl | rfl | rfl | rfl | rfl | rfl | rfl | rfl <;> decide

theorem part_zero {l : Int} (h0 : ¬ 0 < l) : part l = 0 := by simp [part, h0]
theorem part_pos {l : Int} (h0 : 0 < l) : part l = (2 : Int) ^ (8 - l).toNat := by simp [part, h0]

/-! ### Matches -/
structure Tok where
  s : Int
  b : Int
  m : Int
deriving DecidableEq

/-- Does a match with n symbols go on? -/
def goesOn (xs : List Int) (p back : Int) (n : Nat) : Bool := decide (p + n < xs.length) && decide (gi xs (p + n) = gi xs (p + n - back))

def mrun (xs : List Int) (p back : Int) : Nat → Nat → Nat
  | 0, n => n
  | f + 1, n => if goesOn xs p back n then mrun xs p back f (n + 1) else n

def matchLen (xs : List Int) (p back : Int) : Nat := mrun xs p back 9 0

theorem mrun_yes {xs : List Int} {p back : Int} {f n : Nat} (h : 0 < f) (hg : goesOn xs p back n = true) : mrun xs p back f n = mrun xs p back (f - 1) (n + 1) := by
  cases f with
  | zero => omega
  | succ f => simp [mrun, hg]

theorem mrun_no {xs : List Int} {p back : Int} {f n : Nat} (hg : goesOn xs p back n = false) : mrun xs p back f n = n := by
  cases f with
  | zero => rfl
  | succ f => simp [mrun, hg]

theorem goesOn_yes {xs : List Int} {p back : Int} {n : Nat} (h : p + n < xs.length) (he : gi xs (p + n) = gi xs (p + n - back)) : goesOn xs p back n = true := by simp [goesOn, h, he]
theorem goesOn_far {xs : List Int} {p back : Int} {n : Nat} (h : ¬ p + n < xs.length) : goesOn xs p back n = false := by simp only [goesOn, decide_eq_false h, Bool.false_and]
theorem goesOn_other {xs : List Int} {p back : Int} {n : Nat} (he : ¬ gi xs (p + n) = gi xs (p + n - back)) : goesOn xs p back n = false := by simp only [goesOn, decide_eq_false he, Bool.and_false]

theorem mrun_bd {xs : List Int} {p back : Int} : ∀ (f n : Nat), n ≤ mrun xs p back f n ∧ mrun xs p back f n ≤ n + f
  | 0, n => by simp [mrun]
  | f + 1, n => by
    have ih := mrun_bd (xs := xs) (p := p) (back := back) f (n + 1)
    simp only [mrun]
    split <;> omega

theorem matchLen_le (xs : List Int) (p back : Int) : matchLen xs p back ≤ 9 := by
  have := (mrun_bd (xs := xs) (p := p) (back := back) 9 0).2
  simpa [matchLen] using this

theorem mrun_len {xs : List Int} {p back : Int} : ∀ (f n : Nat), (p + n ≤ xs.length) → p + mrun xs p back f n ≤ xs.length
  | 0, n, h => by simpa [mrun] using h
  | f + 1, n, h => by
    simp only [mrun]
    split
    · rename_i hg
      refine mrun_len f (n + 1) ?_
      simp only [goesOn, Bool.and_eq_true, decide_eq_true_eq] at hg
      omega
    · exact h

theorem matchLen_len {xs : List Int} {p back : Int} (h : p ≤ xs.length) : p + matchLen xs p back ≤ xs.length := by
  have := mrun_len (back := back) 9 0 (show p + (0 : Nat) ≤ xs.length by simpa using h)
  exact this

/-- The best match from one of the first k distances. -/
def mbest (xs : List Int) (p : Int) : Nat → Tok
  | 0 => ⟨0, 0, 0⟩
  | k + 1 => if 2 ≤ (matchLen xs p (k + 1 : Nat) : Int) ∧ (mbest xs p k).m < (matchLen xs p (k + 1 : Nat) : Int) then ⟨0, (k + 1 : Nat), matchLen xs p (k + 1 : Nat)⟩ else mbest xs p k

theorem mbest_bd (xs : List Int) (p : Int) : ∀ k, 0 ≤ (mbest xs p k).m ∧ (mbest xs p k).m ≤ 9
  | 0 => by simp [mbest]
  | k + 1 => by
    have ih := mbest_bd xs p k
    have := matchLen_le xs p (k + 1 : Nat)
    simp only [mbest]
    split
    · dsimp only; omega
    · exact ih

theorem mbest_yes {xs : List Int} {p : Int} {k : Nat} (h : 2 ≤ (matchLen xs p (k + 1 : Nat) : Int) ∧ (mbest xs p k).m < (matchLen xs p (k + 1 : Nat) : Int)) : mbest xs p (k + 1) = ⟨0, (k + 1 : Nat), matchLen xs p (k + 1 : Nat)⟩ := by
  simp only [mbest]; rw [if_pos h]
theorem mbest_no {xs : List Int} {p : Int} {k : Nat} (h : ¬ (2 ≤ (matchLen xs p (k + 1 : Nat) : Int) ∧ (mbest xs p k).m < (matchLen xs p (k + 1 : Nat) : Int))) : mbest xs p (k + 1) = mbest xs p k := by
  simp only [mbest]; rw [if_neg h]

def placeOk (xs : List Int) (p : Int) : Bool := listOk xs && inB 0 (xs.length - 1) p
def matchAt (xs : List Int) (p : Int) : Tok := if placeOk xs p then mbest xs p (min 16 p.toNat) else ⟨0, 0, 0⟩
def matchOk (xs : List Int) (p : Int) : Bool := decide (0 < (matchAt xs p).m)

end Go.Proofs.Ytjbedonncjppfaa
