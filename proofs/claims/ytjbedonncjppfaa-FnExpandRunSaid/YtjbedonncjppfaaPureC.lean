/-
  The plain functions: codes of given lengths.
-/
import Derived.Test.YtjbedonncjppfaaPure4
namespace Go.Proofs.Ytjbedonncjppfaa
set_option linter.unusedVariables false
set_option linter.unusedSimpArgs false
set_option linter.unnecessarySimpa false

/-! ### Lists by their places -/
def tab (n : Nat) (f : Nat → Int) : List Int := (List.range n).map f

theorem tab_length (n : Nat) (f : Nat → Int) : (tab n f).length = n := by simp [tab]
theorem tab_get? (n : Nat) (f : Nat → Int) (i : Nat) : (tab n f)[i]? = if i < n then some (f i) else none := by
  simp only [tab, List.getElem?_map]
  by_cases h : i < n
  · rw [if_pos h, List.getElem?_range h]; rfl
  · rw [if_neg h, List.getElem?_eq_none (by simp; omega)]; rfl
theorem tab_gi {n : Nat} {f : Nat → Int} {i : Nat} (h : i < n) : gi (tab n f) (i : Int) = f i := by
  unfold gi
  rw [List.getD_eq_getElem?_getD, Int.toNat_natCast, tab_get?, if_pos h]; rfl
theorem tab_ext {n : Nat} {f g : Nat → Int} (h : ∀ i, i < n → f i = g i) : tab n f = tab n g := by
  apply List.ext_getElem?
  intro i
  rw [tab_get?, tab_get?]
  by_cases hi : i < n
  · rw [if_pos hi, if_pos hi, h i hi]
  · rw [if_neg hi, if_neg hi]
theorem tab_set (n : Nat) (f : Nat → Int) (i : Nat) (x : Int) : (tab n f).set i x = tab n (fun k => if k = i then x else f k) := by
  apply List.ext_getElem?
  intro j
  rw [List.getElem?_set, tab_get?, tab_get?, tab_length]
  by_cases hj : j < n
  · rw [if_pos hj, if_pos hj]
    by_cases e : i = j
    · subst e; simp [hj]
    · rw [if_neg e, if_neg (Ne.symm e)]
  · rw [if_neg hj, if_neg hj]
    by_cases e : i = j
    · subst e; simp [hj]
    · rw [if_neg e]
theorem tab_succ (n : Nat) (f : Nat → Int) : tab (n + 1) f = tab n f ++ [f n] := by simp [tab, List.range_succ]
theorem tab_self (xs : List Int) : tab xs.length (fun i => gi xs (i : Int)) = xs := by
  apply List.ext_getElem?
  intro i
  rw [tab_get?]
  by_cases hi : i < xs.length
  · rw [if_pos hi, gi_nat hi, List.getElem?_eq_getElem hi]
  · rw [if_neg hi, List.getElem?_eq_none (by omega)]
theorem tab_replicate (n : Nat) (x : Int) : List.replicate n x = tab n (fun _ => x) := by
  apply List.ext_getElem?
  intro i
  rw [tab_get?, List.getElem?_replicate]
theorem gi_set_same {xs : List Int} {i : Nat} {x : Int} (h : i < xs.length) : gi (xs.set i x) (i : Int) = x := by simp [gi, List.getD, h]
theorem gi_set_other {xs : List Int} {i j : Nat} {x : Int} (h : i ≠ j) : gi (xs.set i x) (j : Int) = gi xs (j : Int) := by simp [gi, List.getD, List.getElem?_set, h]
theorem eq_of_gi {xs ys : List Int} (hl : xs.length = ys.length) (h : ∀ i : Nat, i < xs.length → gi xs i = gi ys i) : xs = ys := by
  rw [← tab_self xs, ← tab_self ys, ← hl]
  exact tab_ext h

/-! ### How many symbols of a length are among the first ones -/
def cnt (ls : List Int) (w : Int) : Nat → Int
  | 0 => 0
  | i + 1 => cnt ls w i + (if gi ls (i : Int) = w then 1 else 0)

theorem cnt_bd (ls : List Int) (w : Int) : ∀ i, 0 ≤ cnt ls w i ∧ cnt ls w i ≤ i
  | 0 => by simp [cnt]
  | i + 1 => by
    have ih := cnt_bd ls w i
    simp only [cnt]
    split <;> omega

theorem cnt_mono (ls : List Int) (w : Int) (i : Nat) : ∀ d, cnt ls w i ≤ cnt ls w (i + d)
  | 0 => Int.le_refl _
  | d + 1 => by
    have ih := cnt_mono ls w i d
    rw [← Nat.add_assoc]
    simp only [cnt]
    split <;> omega

theorem cnt_le (ls : List Int) (w : Int) {i j : Nat} (h : i ≤ j) : cnt ls w i ≤ cnt ls w j := by
  have := cnt_mono ls w i (j - i)
  rwa [show i + (j - i) = j by omega] at this

/-- The first code of a length. -/
def cN (ls : List Int) : Nat → Int
  | 0 => 0
  | 1 => 0
  | l + 2 => 2 * (cN ls (l + 1) + cnt ls ((l + 1 : Nat) : Int) 8)

/-- The code that comes next at a length and a symbol. -/
def cV (ls : List Int) (l i : Nat) : Int := cN ls l + cnt ls (l : Int) i

theorem cN_succ {ls : List Int} {l : Nat} (h : 1 ≤ l) : cN ls (l + 1) = 2 * cV ls l 8 := by
  obtain ⟨m, rfl⟩ : ∃ m, l = m + 1 := ⟨l - 1, by omega⟩
  rfl

theorem cN_bd (ls : List Int) : ∀ l, 0 ≤ cN ls l ∧ cN ls l + 16 ≤ 16 * 2 ^ l
  | 0 => by simp [cN]
  | 1 => by simp [cN]
  | l + 2 => by
    have ih := cN_bd ls (l + 1)
    have := cnt_bd ls ((l + 1 : Nat) : Int) 8
    have e : (2 : Int) ^ (l + 2) = 2 * 2 ^ (l + 1) := by rw [Int.pow_succ]; omega
    simp only [cN]
    omega

theorem cV_bd {ls : List Int} {l i : Nat} (hl : l ≤ 9) (hi : i ≤ 8) : 0 ≤ cV ls l i ∧ cV ls l i ≤ 8192 := by
  have h1 := cN_bd ls l
  have h2 := cnt_bd ls (l : Int) i
  have h3 : (2 : Int) ^ l ≤ 512 := by
    have : l = 0 ∨ l = 1 ∨ l = 2 ∨ l = 3 ∨ l = 4 ∨ l = 5 ∨ l = 6 ∨ l = 7 ∨ l = 8 ∨ l = 9 := by omega
    rcases this with rfl | rfl | rfl | rfl | rfl | rfl | rfl | rfl | rfl | rfl <;> decide
  unfold cV
  omega

def codeAt (ls : List Int) (i : Nat) : Int := if 0 < gi ls (i : Int) then cV ls (gi ls (i : Int)).toNat i else -1

def codesOf (ls : List Int) : List Int := if lengthsValid ls = true then tab 8 (codeAt ls) else []

theorem codeAt_eq {ls : List Int} {i l : Nat} (hl : 1 ≤ l) (h : gi ls (i : Int) = l) : codeAt ls i = cV ls l i := by
  unfold codeAt
  rw [h, if_pos (by omega), Int.toNat_natCast]

theorem cV_succ {ls : List Int} {l i : Nat} : cV ls l (i + 1) = cV ls l i + (if gi ls (i : Int) = l then 1 else 0) := by
  simp only [cV, cnt]; omega

theorem codeAt_bd {ls : List Int} (ha : allIn 0 8 ls = true) (i : Nat) (hi : i < 8) : -1 ≤ codeAt ls i ∧ codeAt ls i ≤ 8192 := by
  unfold codeAt
  split
  · rename_i h
    have h8 : gi ls (i : Int) ≤ 8 := by
      unfold gi
      by_cases hk : (i : Int).toNat < ls.length
      · rw [List.getD_eq_getElem?_getD, List.getElem?_eq_getElem hk, Option.getD_some]
        exact (inB_iff.1 (List.all_eq_true.1 ha _ (List.getElem_mem hk))).2
      · rw [List.getD_eq_getElem?_getD, List.getElem?_eq_none (by omega)]; decide
    have := cV_bd (ls := ls) (l := (gi ls (i : Int)).toNat) (i := i) (by omega) (by omega)
    omega
  · omega

/-- What lies in the list while the codes are dealt out: those ahead of length l and symbol i. -/
def dealt (ls : List Int) (l i : Nat) : List Int :=
  tab 8 (fun k => if 0 < gi ls (k : Int) ∧ (gi ls (k : Int) < l ∨ (gi ls (k : Int) = l ∧ k < i)) then codeAt ls k else -1)

theorem dealt_length (ls : List Int) (l i : Nat) : (dealt ls l i).length = 8 := tab_length _ _

theorem dealt_start (ls : List Int) : dealt ls 1 0 = tab 8 (fun _ => -1) := tab_ext fun k _ => if_neg (by omega)

theorem dealt_skip {ls : List Int} {l i : Nat} (h : gi ls (i : Int) ≠ l) : dealt ls l (i + 1) = dealt ls l i := tab_ext fun k _ => by
  by_cases e : k = i
  · subst e
    by_cases h1 : 0 < gi ls (k : Int) ∧ (gi ls (k : Int) < l ∨ (gi ls (k : Int) = l ∧ k < k + 1))
    · rw [if_pos h1, if_pos (by omega)]
    · rw [if_neg h1, if_neg (by omega)]
  · by_cases h1 : 0 < gi ls (k : Int) ∧ (gi ls (k : Int) < l ∨ (gi ls (k : Int) = l ∧ k < i + 1))
    · rw [if_pos h1, if_pos (by omega)]
    · rw [if_neg h1, if_neg (by omega)]

theorem dealt_take {ls : List Int} {l i : Nat} (hl : 1 ≤ l) (h : gi ls (i : Int) = l) : (dealt ls l i).set i (cV ls l i) = dealt ls l (i + 1) := by
  unfold dealt
  rw [tab_set]
  refine tab_ext fun k _ => ?_
  by_cases e : k = i
  · subst e
    rw [if_pos rfl, if_pos (by omega), codeAt_eq hl h]
  · rw [if_neg e]
    by_cases h1 : 0 < gi ls (k : Int) ∧ (gi ls (k : Int) < l ∨ (gi ls (k : Int) = l ∧ k < i + 1))
    · rw [if_pos h1, if_pos (by omega)]
    · rw [if_neg h1, if_neg (by omega)]

theorem dealt_next (ls : List Int) (l : Nat) : dealt ls l 8 = dealt ls (l + 1) 0 := tab_ext fun k hk => by
  by_cases h1 : 0 < gi ls (k : Int) ∧ (gi ls (k : Int) < l ∨ (gi ls (k : Int) = l ∧ k < 8))
  · rw [if_pos h1, if_pos (by omega)]
  · rw [if_neg h1, if_neg (by omega)]

theorem dealt_end {ls : List Int} (hl : ls.length = 8) (ha : allIn 0 8 ls = true) : dealt ls 9 0 = tab 8 (codeAt ls) := tab_ext fun k hk => by
  have h8 := allIn_gi ha (i := (k : Int)) (by omega) (by omega)
  by_cases h1 : 0 < gi ls (k : Int)
  · rw [if_pos (by omega)]
  · rw [if_neg (by omega)]; unfold codeAt; rw [if_neg h1]

/-! ### Codes do not run over -/
theorem kraft_cnt {ls : List Int} (ha : allIn 0 8 ls = true) : ∀ i, i ≤ ls.length →
    kraft (ls.take i) = 128 * cnt ls 1 i + 64 * cnt ls 2 i + 32 * cnt ls 3 i + 16 * cnt ls 4 i + 8 * cnt ls 5 i + 4 * cnt ls 6 i + 2 * cnt ls 7 i + cnt ls 8 i
  | 0, _ => by simp [kraft, cnt]
  | i + 1, h => by
    have ih := kraft_cnt ha i (by omega)
    have hb := allIn_gi ha (i := (i : Int)) (by omega) (by omega)
    rw [kraft_take (by omega), ih]
    simp only [cnt]
    generalize gi ls (i : Int) = x at *
    have : x = 0 ∨ x = 1 ∨ x = 2 ∨ x = 3 ∨ x = 4 ∨ x = 5 ∨ x = 6 ∨ x = 7 ∨ x = 8 := by omega
    rcases this with rfl | rfl | rfl | rfl | rfl | rfl | rfl | rfl | rfl <;> simp [part] <;> omega

theorem cV_total {ls : List Int} (hl : ls.length = 8) (ha : allIn 0 8 ls = true) : cV ls 8 8 = kraft ls := by
  have h := kraft_cnt ha 8 (by omega)
  rw [List.take_of_length_le (by omega)] at h
  rw [h]
  simp only [cV, cN]
  have e1 : ((0 + 1 : Nat) : Int) = 1 := rfl
  have e2 : ((1 + 1 : Nat) : Int) = 2 := rfl
  have e3 : ((2 + 1 : Nat) : Int) = 3 := rfl
  have e4 : ((3 + 1 : Nat) : Int) = 4 := rfl
  have e5 : ((4 + 1 : Nat) : Int) = 5 := rfl
  have e6 : ((5 + 1 : Nat) : Int) = 6 := rfl
  have e7 : ((6 + 1 : Nat) : Int) = 7 := rfl
  have e8 : ((8 : Nat) : Int) = 8 := rfl
  rw [e1, e2, e3, e4, e5, e6, e7, e8]
  omega

theorem cV_grow {ls : List Int} {l : Nat} (hl : 1 ≤ l) (i : Nat) (hi : i ≤ 8) : ∀ d, 2 ^ (d + 1) * cV ls l i ≤ cN ls (l + d + 1)
  | 0 => by
    rw [cN_succ (by omega)]
    have := cnt_le ls (l : Int) hi
    simp only [cV, Nat.zero_add, Int.pow_succ, Int.pow_zero, Int.one_mul, Nat.add_zero]
    omega
  | d + 1 => by
    have ih := cV_grow (ls := ls) hl i hi d
    rw [show l + (d + 1) + 1 = (l + d + 1) + 1 by omega, cN_succ (by omega)]
    have := (cnt_bd ls ((l + d + 1 : Nat) : Int) 8).1
    have e : (2 : Int) ^ (d + 1 + 1) = 2 * 2 ^ (d + 1) := by rw [Int.pow_succ]; omega
    rw [e, Int.mul_assoc]
    simp only [cV] at *
    omega

/-- A code fits into its length. -/
theorem codeAt_fit {ls : List Int} (hv : lengthsValid ls = true) {i : Nat} (hi : i < 8) (h0 : 0 < gi ls (i : Int)) : 0 ≤ codeAt ls i ∧ codeAt ls i + 1 ≤ 2 ^ (gi ls (i : Int)).toNat := by
  have hlo : lengthsOk ls = true := by
    cases h : lengthsOk ls with
    | true => rfl
    | false => simp [lengthsValid, kraftOf, h, inB] at hv
  obtain ⟨hl, ha⟩ := lengthsOk_iff.1 hlo
  have hk : kraft ls ≤ 256 := by
    simp only [lengthsValid, kraftOf, hlo, if_true] at hv
    exact (inB_iff.1 hv).2
  have h8 := allIn_gi ha (i := (i : Int)) (by omega) (by omega)
  obtain ⟨l, hle⟩ : ∃ l : Nat, gi ls (i : Int) = l := ⟨(gi ls (i : Int)).toNat, by omega⟩
  rw [codeAt_eq (by omega) hle, hle, Int.toNat_natCast]
  have h1 : cV ls l (i + 1) = cV ls l i + 1 := by rw [cV_succ, if_pos hle]
  have h2 := cV_total hl ha
  have h3 := cV_bd (ls := ls) (l := l) (i := i) (by omega) (by omega)
  refine ⟨h3.1, ?_⟩
  rw [← h1]
  by_cases e : l = 8
  · subst e
    have := cnt_le ls ((8 : Nat) : Int) (show i + 1 ≤ 8 by omega)
    unfold cV at *
    show _ ≤ (256 : Int)
    omega
  · have g := cV_grow (ls := ls) (l := l) (by omega) (i + 1) (by omega) (8 - l - 1)
    rw [show l + (8 - l - 1) + 1 = 8 by omega] at g
    have c8 := (cnt_bd ls ((8 : Nat) : Int) 8).1
    have g2 : 2 ^ (8 - l - 1 + 1) * cV ls l (i + 1) ≤ 256 := by unfold cV at *; omega
    have e1 : (256 : Int) = 2 ^ (8 - l - 1 + 1) * 2 ^ l := by
      rw [← Int.pow_add, show 8 - l - 1 + 1 + l = 8 by omega]; rfl
    rw [e1] at g2
    exact Int.le_of_mul_le_mul_left g2 (Int.pow_pos (by decide))

/-- Codes lie apart: a later one, cut to an earlier one's length, is greater. -/
theorem codeAt_apart {ls : List Int} {i k : Nat} (hi : i < 8) (hk : k < 8) (h0 : 0 < gi ls (i : Int)) (h : gi ls (i : Int) < gi ls (k : Int) ∨ (gi ls (i : Int) = gi ls (k : Int) ∧ i < k)) :
    2 ^ (gi ls (k : Int) - gi ls (i : Int)).toNat * (codeAt ls i + 1) ≤ codeAt ls k := by
  obtain ⟨l, hle⟩ : ∃ l : Nat, gi ls (i : Int) = l := ⟨(gi ls (i : Int)).toNat, by omega⟩
  obtain ⟨l', hle'⟩ : ∃ l : Nat, gi ls (k : Int) = l := ⟨(gi ls (k : Int)).toNat, by omega⟩
  rw [hle, hle'] at h
  rw [codeAt_eq (by omega) hle, codeAt_eq (by omega) hle', hle, hle']
  have h1 : cV ls l (i + 1) = cV ls l i + 1 := by rw [cV_succ, if_pos hle]
  rw [← h1]
  rcases h with h | ⟨h, h'⟩
  · have g := cV_grow (ls := ls) (l := l) (by omega) (i + 1) (by omega) (l' - l - 1)
    rw [show l + (l' - l - 1) + 1 = l' by omega, show l' - l - 1 + 1 = ((l' : Int) - l).toNat by omega] at g
    have c := (cnt_bd ls ((l' : Nat) : Int) k).1
    unfold cV at *
    omega
  · have e : l = l' := by omega
    subst e
    have := cnt_le ls (l : Int) (show i + 1 ≤ k by omega)
    rw [Int.sub_self]
    simp only [Int.toNat_zero, Int.pow_zero, Int.one_mul]
    unfold cV at *
    omega

end Go.Proofs.Ytjbedonncjppfaa
