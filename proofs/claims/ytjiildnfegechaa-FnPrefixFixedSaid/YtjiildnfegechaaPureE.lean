/-
  Plain facts on states: ranges, sure symbols, what is left over; counts of symbols.
-/
import Derived.Test.YtjiildnfegechaaPureS
import Derived.Test.YtjiildnfegechaaPureK
namespace Go.Proofs.Ytjiildnfegechaa
set_option linter.unusedVariables false
set_option linter.unusedSimpArgs false
set_option linter.unnecessarySimpa false

theorem encOk_parts {xs fs : List Int} (h : encOk xs fs = true) : listOk xs = true ∧ freqsOk fs = true ∧ allUsed fs xs = true := by
  simpa [encOk, Bool.and_eq_true] using h
theorem encOk_eq {xs fs : List Int} (h : encOk xs fs = true) : encState xs fs = (encS fs xs).1 ∧ encBytes xs fs = (encS fs xs).2 := by
  unfold encState encBytes; rw [if_pos h, if_pos h]; exact ⟨rfl, rfl⟩
theorem enc_facts {xs fs : List Int} (h : encOk xs fs = true) : InR (encState xs fs) ∧ (encBytes xs fs).length ≤ xs.length := by
  obtain ⟨h1, h2, h3⟩ := encOk_parts h
  obtain ⟨e1, e2⟩ := encOk_eq h
  have ha := (listOk_iff.1 h1).2
  rw [e1, e2]
  exact ⟨encS_range h2 ha h3, (encS_bytes h2 ha h3).2⟩
theorem encState_bd (xs fs : List Int) : 0 ≤ encState xs fs ∧ encState xs fs ≤ 2097152 := by
  by_cases h : encOk xs fs = true
  · have := (enc_facts h).1; unfold InR at this; omega
  · unfold encState; rw [if_neg h]; omega
theorem enc_nil {fs : List Int} (h : freqsOk fs = true) : encOk [] fs = true ∧ encState [] fs = 8192 ∧ encBytes [] fs = [] := by
  have h1 : encOk [] fs = true := by simp [encOk, h, listOk, allIn, allUsed]
  obtain ⟨e1, e2⟩ := encOk_eq h1
  exact ⟨h1, by rw [e1]; rfl, by rw [e2]; rfl⟩

/-! ### A sure symbol -/
def sureF (s : Nat) : List Int := (List.replicate 8 (0 : Int)).set s 32
theorem sure_cases : ∀ s, s < 8 → freqsOk (sureF s) = true ∧ gi (sureF s) (s : Int) = 32 ∧ startAt (sureF s) s = 0 := by decide +kernel
theorem sure_enc {s : Nat} (hs : s < 8) : ∀ n : Nat, encS (sureF s) (List.replicate n (s : Int)) = (8192, [])
  | 0 => rfl
  | n + 1 => by
    obtain ⟨_, h2, h3⟩ := sure_cases s hs
    rw [List.replicate_succ]
    simp only [encS]
    rw [sure_enc hs n]
    unfold encStep
    rw [h2, Int.toNat_natCast, h3]
    rfl
theorem sure_ok {s n : Nat} (hs : s < 8) (hn : n ≤ 40) : encOk (List.replicate n (s : Int)) (sureF s) = true ∧ encState (List.replicate n (s : Int)) (sureF s) = 8192 ∧ encBytes (List.replicate n (s : Int)) (sureF s) = [] := by
  obtain ⟨h1, h2, _⟩ := sure_cases s hs
  have hl : listOk (List.replicate n (s : Int)) = true := listOk_iff.2 ⟨by simpa using hn, List.all_eq_true.2 fun x hx => by
    rw [List.eq_of_mem_replicate hx]; exact inB_iff.2 (by omega)⟩
  have hu : allUsed (sureF s) (List.replicate n (s : Int)) = true := List.all_eq_true.2 fun x hx => by
    rw [List.eq_of_mem_replicate hx, h2]; rfl
  have h : encOk (List.replicate n (s : Int)) (sureF s) = true := by simp [encOk, hl, h1, hu]
  obtain ⟨e1, e2⟩ := encOk_eq h
  rw [e1, e2, sure_enc hs n]
  exact ⟨h, rfl, rfl⟩

/-! ### A symbol without a frequency -/
def lackB (fs xs : List Int) : Nat → Bool
  | 0 => false
  | k + 1 => lackB fs xs k || decide (gi fs (gi xs k) = 0)
theorem lack_take (fs xs : List Int) : ∀ k, k ≤ xs.length → lackB fs xs k = !(allUsed fs (xs.take k))
  | 0, _ => rfl
  | k + 1, h => by
    simp only [lackB]
    rw [lack_take fs xs k (by omega), take_succ_gi (by omega)]
    simp only [allUsed, List.all_append, List.all_cons, List.all_nil, Bool.and_true, Bool.not_and]
    congr 1
    by_cases e : gi fs (gi xs k) = 0 <;> simp [e]
theorem enc_when {xs fs : List Int} (h1 : listOk xs = true) (h2 : freqsOk fs = true) : encOk xs fs = !(lackB fs xs xs.length) := by
  rw [lack_take fs xs _ (Nat.le_refl _), List.take_length, Bool.not_not]
  simp [encOk, h1, h2]

/-! ### There and back -/
theorem states_back {xs fs : List Int} (h : encOk xs fs = true) : statesDec (encState xs fs) (encBytes xs fs) fs xs.length = some xs := by
  obtain ⟨h1, h2, h3⟩ := encOk_parts h
  obtain ⟨e1, e2⟩ := encOk_eq h
  obtain ⟨hl, ha⟩ := listOk_iff.1 h1
  have hr := (enc_facts h).1
  have hb := (encS_bytes h2 ha h3).1
  rw [← e2] at hb
  unfold statesDec
  rw [if_pos]
  · rw [Int.toNat_natCast, e1, e2]; exact dec_enc h2 ha h3
  · unfold InR at hr
    simp only [decOk, Bool.and_eq_true, inB_iff]
    exact ⟨by omega, hb, h2, by omega⟩
theorem dec_parts {st : Int} {bs fs : List Int} {many : Int} {out : List Int} (h : statesDec st bs fs many = some out) : InR st ∧ allIn 0 255 bs = true ∧ freqsOk fs = true ∧ 0 ≤ many ∧ many ≤ 40 ∧ decS fs many.toNat st bs = some out := by
  unfold statesDec at h
  split at h
  · rename_i hk
    simp only [decOk, Bool.and_eq_true, inB_iff] at hk
    obtain ⟨h1, h2, h3, h4⟩ := hk
    exact ⟨⟨by omega, by omega⟩, h2, h3, h4.1, h4.2, h⟩
  · cases h
theorem states_forth {st : Int} {bs fs : List Int} {many : Int} {out : List Int} (h : statesDec st bs fs many = some out) : encOk out fs = true ∧ encState out fs = st ∧ encBytes out fs = bs ∧ (out.length : Int) = many ∧ allIn 0 7 out = true := by
  obtain ⟨h1, h2, h3, h4, h5, h6⟩ := dec_parts h
  obtain ⟨e1, e2, e3, e4⟩ := enc_dec h3 h1 h2 h6
  have hk : encOk out fs = true := by
    have : listOk out = true := listOk_iff.2 ⟨by omega, e3⟩
    simp [encOk, this, h3, e4]
  obtain ⟨e5, e6⟩ := encOk_eq hk
  exact ⟨hk, by rw [e5, e1], by rw [e6, e1], by omega, e3⟩

/-! ### What is left over -/
theorem dec_over {fs : List Int} : ∀ {k : Nat} {st : Int} {bs out : List Int}, decS fs k st bs = some out → decS fs k st (bs ++ [0]) = none
  | 0, st, bs, out, h => by
    simp only [decS] at h ⊢
    rw [if_neg (fun hc => by simp at hc)]
  | k + 1, st, bs, out, h => by
    simp only [decS] at h ⊢
    by_cases hp : 8192 ≤ popd fs st
    · rw [if_pos hp] at h ⊢
      obtain ⟨l, hl, rfl⟩ := Option.map_eq_some_iff.1 h
      rw [dec_over hl]; rfl
    · rw [if_neg hp] at h ⊢
      cases bs with
      | nil => cases h
      | cons b bs' =>
        obtain ⟨l, hl, rfl⟩ := Option.map_eq_some_iff.1 h
        dsimp only [List.cons_append]
        rw [dec_over hl]; rfl
theorem states_over {st : Int} {bs fs : List Int} {many : Int} {out : List Int} (h : statesDec st bs fs many = some out) : statesDec st (bs ++ [0]) fs many = none := by
  obtain ⟨h1, h2, h3, h4, h5, h6⟩ := dec_parts h
  unfold statesDec
  split
  · exact dec_over h6
  · rfl
theorem dec_next {fs : List Int} : ∀ {k : Nat} {st : Int} {bs out : List Int}, decS fs k st bs = some out → (decS fs (k + 1) st bs).isSome = (decS fs 1 8192 []).isSome
  | 0, st, bs, out, h => by
    simp only [decS] at h
    split at h
    · rename_i hc; rw [hc.1, hc.2]
    · cases h
  | k + 1, st, bs, out, h => by
    have h' := h
    simp only [decS] at h
    by_cases hp : 8192 ≤ popd fs st
    · rw [if_pos hp] at h
      obtain ⟨l, hl, rfl⟩ := Option.map_eq_some_iff.1 h
      rw [decS_keep hp, Option.isSome_map]
      exact dec_next hl
    · rw [if_neg hp] at h
      cases bs with
      | nil => cases h
      | cons b bs' =>
        obtain ⟨l, hl, rfl⟩ := Option.map_eq_some_iff.1 h
        have e : decS fs (k + 1 + 1) st (b :: bs') = (decS fs (k + 1) (256 * popd fs st + b) bs').map fun l => (symOf fs (st % 32) : Int) :: l := by
          simp only [decS]; rw [if_neg hp]
        rw [e, Option.isSome_map]
        exact dec_next hl
/-- Is one of the first k frequencies the whole scale? -/
def wholeB (fs : List Int) : Nat → Bool
  | 0 => false
  | k + 1 => wholeB fs k || decide (gi fs k = 32)
theorem wholeB_iff {fs : List Int} : ∀ {k : Nat}, wholeB fs k = true ↔ ∃ i : Nat, i < k ∧ gi fs i = 32
  | 0 => by simp [wholeB]
  | k + 1 => by
    simp only [wholeB, Bool.or_eq_true, decide_eq_true_eq, wholeB_iff (k := k)]
    constructor
    · rintro (⟨i, h, e⟩ | e)
      · exact ⟨i, by omega, e⟩
      · exact ⟨k, by omega, e⟩
    · rintro ⟨i, h, e⟩
      by_cases hk : i = k
      · subst hk; exact .inr e
      · exact .inl ⟨i, by omega, e⟩
theorem one_more {fs : List Int} (hf : freqsOk fs = true) : (decS fs 1 8192 []).isSome = wholeB fs 8 := by
  have hs := symOf_spec hf (x := (8192 : Int) % 32) (by omega) (by omega)
  have hp := part_of hf hs.1
  have hpd : popd fs 8192 = gi fs (symOf fs (8192 % 32)) * 256 + 0 - startAt fs (symOf fs (8192 % 32)) := rfl
  have h0 : startAt fs (symOf fs (8192 % 32)) = 0 := by
    have : (8192 : Int) % 32 = 0 := by decide
    omega
  generalize hi : symOf fs (8192 % 32) = i at hs hp hpd h0
  have hle : gi fs i ≤ 32 := by omega
  by_cases h32 : gi fs i = 32
  · have hw : wholeB fs 8 = true := wholeB_iff.2 ⟨i, hs.1, h32⟩
    rw [hw]
    simp only [decS]
    rw [if_pos (by omega), Option.isSome_map, hpd, h32, h0]
    rfl
  · have hw : wholeB fs 8 = false := by
      cases hb : wholeB fs 8 with
      | false => rfl
      | true =>
        exfalso
        obtain ⟨j, hj, ej⟩ := wholeB_iff.1 hb
        have hpj := part_of hf hj
        have hsj : startAt fs j = 0 := by omega
        have hz : (8192 : Int) % 32 = 0 := by decide
        have := sym_unique hf (x := 0) (i := j) (j := i) hj hs.1 (by omega) (by omega) (by omega) (by omega)
        subst this
        exact h32 ej
    rw [hw]
    simp only [decS]
    rw [if_neg (by omega)]
    rfl
theorem states_next {st : Int} {bs fs : List Int} {many : Int} {out : List Int} (h : statesDec st bs fs many = some out) (hm : many ≠ 40) : (statesDec st bs fs (many + 1)).isSome = wholeB fs 8 := by
  obtain ⟨h1, h2, h3, h4, h5, h6⟩ := dec_parts h
  unfold statesDec
  rw [if_pos]
  · rw [show (many + 1).toNat = many.toNat + 1 by omega, dec_next h6, one_more h3]
  · unfold InR at h1
    simp only [decOk, Bool.and_eq_true, inB_iff]
    exact ⟨by omega, h2, h3, by omega⟩

/-! ### Frequencies -/
theorem set_sum {xs : List Int} {x : Int} : ∀ {i : Nat}, i < xs.length → (xs.set i x).sum = xs.sum + (x - gi xs i) := by
  induction xs with
  | nil => intro i h; simp at h
  | cons y ys ih =>
    intro i h
    cases i with
    | zero => simp [gi]; omega
    | succ i =>
      have := ih (i := i) (by simpa using h)
      simp only [List.set_cons_succ, List.sum_cons, this]
      have e : gi (y :: ys) ((i + 1 : Nat) : Int) = gi ys (i : Int) := by simp [gi]
      rw [e]; omega
theorem freqs_more {fs : List Int} (h : freqsOk fs = true) {k : Nat} (hk : k < 8) : freqsOk (fs.set k (gi fs k + 1)) = false := by
  obtain ⟨h1, h2, h3⟩ := freqsOk_iff.1 h
  cases hb : freqsOk (fs.set k (gi fs k + 1)) with
  | false => rfl
  | true =>
    have := (freqsOk_iff.1 hb).2.2
    rw [set_sum (by omega)] at this
    omega
theorem freqs_counts {fs : List Int} (h : freqsOk fs = true) : countsOk fs = true := by
  obtain ⟨h1, h2, h3⟩ := freqsOk_iff.1 h
  exact countsOk_iff.2 ⟨h1, h2⟩

/-! ### Counts of symbols -/
def cntF (xs : List Int) : Nat → List Int
  | 0 => List.replicate 8 0
  | k + 1 => (cntF xs k).set (gi xs k).toNat (gi (cntF xs k) (gi xs k) + 1)
def cntOf (xs : List Int) : List Int := cntF xs xs.length
theorem cntF_length (xs : List Int) : ∀ k, (cntF xs k).length = 8
  | 0 => by simp [cntF]
  | k + 1 => by simp [cntF, cntF_length xs k]
/-- How often a symbol is among the first k. -/
def occ (xs : List Int) (s : Int) : Nat → Int
  | 0 => 0
  | k + 1 => occ xs s k + if gi xs k = s then 1 else 0
theorem cntF_gi {xs : List Int} (h : allIn 0 7 xs = true) {s : Nat} (hs : s < 8) : ∀ k, k ≤ xs.length → gi (cntF xs k) s = occ xs s k
  | 0, _ => by
    have : gi (List.replicate 8 (0 : Int)) (s : Int) = 0 := zeros_gi s
    simpa [cntF, occ] using this
  | k + 1, hk => by
    have ih := cntF_gi h hs k (by omega)
    have hx := allIn_gi h (i := (k : Int)) (by omega) (by omega)
    simp only [cntF, occ]
    by_cases e : gi xs k = s
    · rw [if_pos e, e, Int.toNat_natCast, gi_set_same (by rw [cntF_length]; exact hs), ih]
    · rw [if_neg e, gi_set_other (by omega), ih]; omega
theorem occ_bd (xs : List Int) (s : Int) : ∀ k, 0 ≤ occ xs s k ∧ occ xs s k ≤ k
  | 0 => by simp [occ]
  | k + 1 => by have := occ_bd xs s k; simp only [occ]; split <;> omega
theorem cntF_in {xs : List Int} (h : allIn 0 7 xs = true) {k : Nat} (hk : k ≤ xs.length) : allIn 0 k (cntF xs k) = true := List.all_eq_true.2 fun x hx => by
  obtain ⟨i, hi, rfl⟩ := List.getElem_of_mem hx
  have hi8 := hi
  rw [cntF_length] at hi8
  have := cntF_gi h hi8 k hk
  rw [gi_nat hi] at this
  rw [this]
  exact inB_iff.2 (occ_bd xs i k)
theorem cntF_sum {xs : List Int} (h : allIn 0 7 xs = true) : ∀ k, k ≤ xs.length → (cntF xs k).sum = k
  | 0, _ => rfl
  | k + 1, hk => by
    have hx := allIn_gi h (i := (k : Int)) (by omega) (by omega)
    have e : gi (cntF xs k) (gi xs k) = gi (cntF xs k) ((gi xs k).toNat : Int) := by congr 1; omega
    simp only [cntF]
    rw [set_sum (by rw [cntF_length]; omega), cntF_sum h k (by omega), e]
    omega
theorem cntOf_ok {xs : List Int} (h : listOk xs = true) : countsOk (cntOf xs) = true ∧ (cntOf xs).sum = xs.length := by
  obtain ⟨h1, h2⟩ := listOk_iff.1 h
  refine ⟨countsOk_iff.2 ⟨cntF_length _ _, ?_⟩, cntF_sum h2 _ (Nat.le_refl _)⟩
  have := cntF_in h2 (Nat.le_refl _)
  exact List.all_eq_true.2 fun x hx => by
    have := inB_iff.1 (List.all_eq_true.1 this x hx)
    exact inB_iff.2 (by omega)
end Go.Proofs.Ytjiildnfegechaa
