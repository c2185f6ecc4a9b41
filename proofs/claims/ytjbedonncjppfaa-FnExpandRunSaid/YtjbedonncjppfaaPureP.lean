/-
  The plain functions: lists as bits of codes, and back.
-/
import Derived.Test.YtjbedonncjppfaaPureS
namespace Go.Proofs.Ytjbedonncjppfaa
set_option linter.unusedVariables false
set_option linter.unusedSimpArgs false
set_option linter.unnecessarySimpa false

theorem bitsOk_iff {xs : List Int} : bitsOk xs = true ↔ xs.length ≤ 600 ∧ allIn 0 1 xs = true := by
  simp only [bitsOk, Bool.and_eq_true, decide_eq_true_eq]
  exact ⟨fun ⟨a, b⟩ => ⟨by omega, b⟩, fun ⟨a, b⟩ => ⟨by omega, b⟩⟩

theorem allIn_app {lo hi : Int} {xs ys : List Int} : allIn lo hi (xs ++ ys) = (allIn lo hi xs && allIn lo hi ys) := by simp [allIn]
theorem allIn_tab {lo hi : Int} {n : Nat} {f : Nat → Int} (h : ∀ i, i < n → lo ≤ f i ∧ f i ≤ hi) : allIn lo hi (tab n f) = true :=
  List.all_eq_true.2 fun x hx => by
    simp only [tab, List.mem_map, List.mem_range] at hx
    obtain ⟨i, hi, rfl⟩ := hx
    exact inB_yes (h i hi)

/-- A number's bits. -/
def bitsOf (n : Int) (w : Nat) : List Int := tab w (fun j => n / 2 ^ (w - 1 - j) % 2)
theorem bitsOf_length (n : Int) (w : Nat) : (bitsOf n w).length = w := tab_length _ _
theorem bitsOf_in (n : Int) (w : Nat) : allIn 0 1 (bitsOf n w) = true := allIn_tab fun i _ => by omega

/-- The number of bits. -/
def numOf (bs : List Int) : Int := bs.foldl (fun n b => 2 * n + b) 0
theorem numOf_snoc (bs : List Int) (b : Int) : numOf (bs ++ [b]) = 2 * numOf bs + b := by simp [numOf]

theorem bitsOf_succ (n : Int) (w : Nat) : bitsOf n (w + 1) = bitsOf (n / 2) w ++ [n % 2] := by
  unfold bitsOf
  rw [tab_succ]
  congr 1
  · refine tab_ext fun i hi => ?_
    rw [show w + 1 - 1 - i = (w - 1 - i) + 1 by omega, Int.pow_succ, Int.mul_comm, ← Int.ediv_ediv_of_nonneg (by omega)]
  · rw [show w + 1 - 1 - w = 0 by omega, Int.pow_zero, Int.ediv_one]

theorem numOf_bitsOf : ∀ (w : Nat) (n : Int), 0 ≤ n → n < 2 ^ w → numOf (bitsOf n w) = n
  | 0, n, h0, h1 => by
    have : n = 0 := by simp at h1; omega
    subst this; rfl
  | w + 1, n, h0, h1 => by
    have e : (2 : Int) ^ (w + 1) = 2 * 2 ^ w := by rw [Int.pow_succ]; omega
    rw [bitsOf_succ, numOf_snoc, numOf_bitsOf w (n / 2) (by omega) (by omega)]
    omega

theorem snoc_ind {P : List Int → Prop} (h0 : P []) (h1 : ∀ bs b, P bs → P (bs ++ [b])) (bs : List Int) : P bs := by
  rw [← List.reverse_reverse bs]
  induction bs.reverse with
  | nil => exact h0
  | cons b l ih => rw [List.reverse_cons]; exact h1 _ _ ih

theorem numOf_bd : ∀ {bs : List Int}, allIn 0 1 bs = true → 0 ≤ numOf bs ∧ numOf bs < 2 ^ bs.length := by
  intro bs
  refine snoc_ind (P := fun bs => allIn 0 1 bs = true → 0 ≤ numOf bs ∧ numOf bs < 2 ^ bs.length) (fun _ => by simp [numOf]) (fun bs b ih h => ?_) bs
  · skip
    rw [allIn_app] at h
    simp only [Bool.and_eq_true] at h
    have ih := ih h.1
    have hb : 0 ≤ b ∧ b ≤ 1 := by have := h.2; simp only [allIn, List.all_cons, List.all_nil, Bool.and_true] at this; exact inB_iff.1 this
    rw [numOf_snoc, List.length_append, List.length_singleton]
    have e : (2 : Int) ^ (bs.length + 1) = 2 * 2 ^ bs.length := by rw [Int.pow_succ]; omega
    omega

/-- Bits are those of their number. -/
theorem bitsOf_numOf : ∀ {bs : List Int}, allIn 0 1 bs = true → bitsOf (numOf bs) bs.length = bs := by
  intro bs
  refine snoc_ind (P := fun bs => allIn 0 1 bs = true → bitsOf (numOf bs) bs.length = bs) (fun _ => rfl) (fun bs b ih h => ?_) bs
  · skip
    rw [allIn_app] at h
    simp only [Bool.and_eq_true] at h
    have hb : 0 ≤ b ∧ b ≤ 1 := by have := h.2; simp only [allIn, List.all_cons, List.all_nil, Bool.and_true] at this; exact inB_iff.1 this
    rw [numOf_snoc, List.length_append, List.length_singleton, bitsOf_succ]
    have e1 : (2 * numOf bs + b) / 2 = numOf bs := by omega
    have e2 : (2 * numOf bs + b) % 2 = b := by omega
    rw [e1, e2, ih h.1]

/-- The bits of a list. -/
def codeBits (ls : List Int) (s : Int) : List Int := bitsOf (codeAt ls s.toNat) (gi ls s).toNat
def encB (ls : List Int) : List Int → List Int
  | [] => []
  | s :: xs => codeBits ls s ++ encB ls xs
def canEnc (ls xs : List Int) : Bool := xs.all fun s => decide (0 < gi ls s)
def prefOk (xs ls : List Int) : Bool := listOk xs && (lengthsValid ls && canEnc ls xs)
def prefBits (xs ls : List Int) : List Int := if prefOk xs ls = true then encB ls xs else []

theorem encB_app (ls : List Int) : ∀ xs ys : List Int, encB ls (xs ++ ys) = encB ls xs ++ encB ls ys
  | [], ys => rfl
  | s :: xs, ys => by simp [encB, encB_app ls xs ys]
theorem encB_in (ls : List Int) : ∀ xs : List Int, allIn 0 1 (encB ls xs) = true
  | [] => rfl
  | s :: xs => by simp only [encB, allIn_app, codeBits, bitsOf_in, encB_in ls xs, Bool.and_self]
theorem encB_len {ls : List Int} (ha : allIn 0 8 ls = true) : ∀ {xs : List Int}, (encB ls xs).length ≤ 8 * xs.length
  | [] => by simp [encB]
  | s :: xs => by
    have ih := encB_len (xs := xs) ha
    have h8 : gi ls s ≤ 8 := by
      unfold gi
      by_cases hk : s.toNat < ls.length
      · rw [List.getD_eq_getElem?_getD, List.getElem?_eq_getElem hk, Option.getD_some]
        exact (inB_iff.1 (List.all_eq_true.1 ha _ (List.getElem_mem hk))).2
      · rw [List.getD_eq_getElem?_getD, List.getElem?_eq_none (by omega)]; decide
    simp only [encB, codeBits, List.length_append, bitsOf_length, List.length_cons]
    omega
theorem canEnc_take {ls xs : List Int} (h : canEnc ls xs = true) (k : Nat) : canEnc ls (xs.take k) = true :=
  List.all_eq_true.2 fun x hx => List.all_eq_true.1 h x (List.mem_of_mem_take hx)
theorem canEnc_no {ls xs : List Int} {k : Nat} (h : k < xs.length) (hz : ¬ 0 < gi ls (gi xs k)) : canEnc ls xs = false := by
  cases hb : canEnc ls xs with
  | false => rfl
  | true =>
    have := List.all_eq_true.1 hb xs[k] (List.getElem_mem h)
    rw [gi_nat h] at hz
    simp [hz] at this
theorem canEnc_snoc {ls xs : List Int} {k : Nat} (h : k < xs.length) (hz : 0 < gi ls (gi xs k)) (ht : canEnc ls (xs.take k) = true) : canEnc ls (xs.take (k + 1)) = true := by
  rw [take_succ_gi h]
  simp only [canEnc, List.all_append, List.all_cons, List.all_nil, Bool.and_true, Bool.and_eq_true, decide_eq_true_eq] at *
  exact ⟨ht, hz⟩
theorem encB_take {ls xs : List Int} {k : Nat} (h : k < xs.length) : encB ls (xs.take (k + 1)) = encB ls (xs.take k) ++ codeBits ls (gi xs k) := by
  rw [take_succ_gi h, encB_app]; simp [encB]

/-! ### Reading -/
/-- Does the code of symbol i stand at a place? -/
def hits (ls bs : List Int) (p i : Nat) : Bool := decide (0 < gi ls i) && (decide ((p : Int) + gi ls i ≤ bs.length) && decide (numOf ((bs.drop p).take (gi ls i).toNat) = codeAt ls i))
def symScan (ls bs : List Int) (p : Nat) : Nat → Nat → Int
  | 0, _ => -1
  | k + 1, i => if hits ls bs p i = true then i else symScan ls bs p k (i + 1)
def symAt (ls bs : List Int) (p : Nat) : Int := symScan ls bs p 8 0

theorem symScan_spec {ls bs : List Int} {p : Nat} : ∀ (k i : Nat), (symScan ls bs p k i = -1 ∧ ∀ j, i ≤ j → j < i + k → hits ls bs p j = false) ∨
    ∃ s : Nat, symScan ls bs p k i = s ∧ i ≤ s ∧ s < i + k ∧ hits ls bs p s = true ∧ ∀ j, i ≤ j → j < s → hits ls bs p j = false
  | 0, i => .inl ⟨rfl, fun j h1 h2 => by omega⟩
  | k + 1, i => by
    simp only [symScan]
    by_cases h : hits ls bs p i = true
    · rw [if_pos h]
      exact .inr ⟨i, rfl, Nat.le_refl _, by omega, h, fun j h1 h2 => by omega⟩
    · rw [if_neg h]
      have hf : hits ls bs p i = false := by simpa using h
      rcases symScan_spec (ls := ls) (bs := bs) (p := p) k (i + 1) with ⟨h1, h2⟩ | ⟨s, h1, h2, h3, h4, h5⟩
      · refine .inl ⟨h1, fun j a b => ?_⟩
        by_cases e : j = i
        · rw [e]; exact hf
        · exact h2 j (by omega) (by omega)
      · refine .inr ⟨s, h1, by omega, by omega, h4, fun j a b => ?_⟩
        by_cases e : j = i
        · rw [e]; exact hf
        · exact h5 j (by omega) b

theorem symAt_spec (ls bs : List Int) (p : Nat) : (symAt ls bs p = -1 ∧ ∀ j, j < 8 → hits ls bs p j = false) ∨ ∃ s : Nat, symAt ls bs p = s ∧ s < 8 ∧ hits ls bs p s = true := by
  rcases symScan_spec (ls := ls) (bs := bs) (p := p) 8 0 with ⟨h1, h2⟩ | ⟨s, h1, _, h3, h4, _⟩
  · exact .inl ⟨h1, fun j hj => h2 j (Nat.zero_le _) (by omega)⟩
  · exact .inr ⟨s, h1, by omega, h4⟩

theorem hits_iff {ls bs : List Int} {p i : Nat} : hits ls bs p i = true ↔ 0 < gi ls i ∧ (p : Int) + gi ls i ≤ bs.length ∧ numOf ((bs.drop p).take (gi ls i).toNat) = codeAt ls i := by
  simp only [hits, Bool.and_eq_true, decide_eq_true_eq]

/-- Symbols from a place on. -/
def decP (ls bs : List Int) : Nat → Nat → Option (List Int × Nat)
  | 0, p => some ([], p)
  | k + 1, p => if symAt ls bs p < 0 then none else (decP ls bs k (p + (gi ls (symAt ls bs p)).toNat)).map fun r => (symAt ls bs p :: r.1, r.2)

def prefDec (bs ls : List Int) (many : Int) : Option (List Int × Nat) := if (bitsOk bs && (lengthsValid ls && inB 0 40 many)) = true then decP ls bs many.toNat 0 else none

theorem decP_good {ls bs : List Int} : ∀ {k p : Nat} {out : List Int} {q : Nat}, decP ls bs k p = some (out, q) → out.length = k ∧ allIn 0 7 out = true ∧ canEnc ls out = true ∧ (p ≤ bs.length → p ≤ q ∧ q ≤ bs.length)
  | 0, p, out, q, h => by
    simp only [decP, Option.some.injEq, Prod.mk.injEq] at h
    obtain ⟨rfl, rfl⟩ := h
    exact ⟨rfl, rfl, rfl, fun h => ⟨Nat.le_refl _, h⟩⟩
  | k + 1, p, out, q, h => by
    simp only [decP] at h
    rcases symAt_spec ls bs p with ⟨h1, _⟩ | ⟨s, h1, h2, h3⟩
    · rw [if_pos (by omega)] at h; cases h
    · rw [if_neg (by omega)] at h
      obtain ⟨⟨l, q'⟩, hl, he⟩ := Option.map_eq_some_iff.1 h
      simp only [Prod.mk.injEq] at he
      obtain ⟨rfl, rfl⟩ := he
      obtain ⟨i1, i2, i3, i4⟩ := decP_good hl
      rw [hits_iff] at h3
      refine ⟨by simp [i1], allIn_cons.2 ⟨by omega, i2⟩, ?_, fun hp => ?_⟩
      · simp only [canEnc, List.all_cons, Bool.and_eq_true, decide_eq_true_eq] at *
        rw [h1]; exact ⟨h3.1, i3⟩
      · rw [h1] at i4
        have := i4 (by omega)
        omega

/-- Codes do not begin each other: at most one stands at a place. -/
theorem hits_one {ls bs : List Int} (hv : lengthsValid ls = true) {p i j : Nat} (hi : i < 8) (hj : j < 8) (hb : allIn 0 1 bs = true) (h1 : hits ls bs p i = true) (h2 : hits ls bs p j = true) : i = j := by
  have key : ∀ i j : Nat, i < 8 → j < 8 → hits ls bs p i = true → hits ls bs p j = true → (gi ls (i : Int) < gi ls (j : Int) ∨ (gi ls (i : Int) = gi ls (j : Int) ∧ i < j)) → False := by
    intro i j hi hj h1 h2 hlt
    rw [hits_iff] at h1 h2
    have ap := codeAt_apart hi hj h1.1 hlt
    obtain ⟨a, ha⟩ : ∃ a : Nat, gi ls (i : Int) = a := ⟨(gi ls (i : Int)).toNat, by omega⟩
    obtain ⟨b, hbn⟩ : ∃ b : Nat, gi ls (j : Int) = b := ⟨(gi ls (j : Int)).toNat, by omega⟩
    rw [ha, hbn] at ap hlt
    rw [ha] at h1
    rw [hbn] at h2
    rw [Int.toNat_natCast] at h1 h2
    have hab : a ≤ b := by omega
    -- the later code's number, cut to the earlier one's length
    have hd : ∀ d : Nat, ∀ ys : List Int, allIn 0 1 ys = true → d ≤ ys.length → numOf ys < 2 ^ d * (numOf (ys.take (ys.length - d)) + 1) := by
      intro d
      induction d with
      | zero => intro ys _ _; rw [Nat.sub_zero, List.take_length]; simp; omega
      | succ d ih =>
        intro ys hy hdl
        have hne : ys ≠ [] := by intro e; rw [e] at hdl; simp at hdl
        obtain ⟨zs, b, rfl⟩ : ∃ zs b, ys = zs ++ [b] := ⟨ys.dropLast, ys.getLast hne, (List.dropLast_concat_getLast hne).symm⟩
        rw [allIn_app] at hy
        simp only [Bool.and_eq_true] at hy
        have hb : 0 ≤ b ∧ b ≤ 1 := by have := hy.2; simp only [allIn, List.all_cons, List.all_nil, Bool.and_true] at this; exact inB_iff.1 this
        have hlen : (zs ++ [b]).length = zs.length + 1 := by simp
        rw [hlen] at hdl ⊢
        have ih := ih zs hy.1 (by omega)
        rw [numOf_snoc, show zs.length + 1 - (d + 1) = zs.length - d by omega, List.take_append_of_le_length (by omega)]
        have e : (2 : Int) ^ (d + 1) = 2 * 2 ^ d := by rw [Int.pow_succ]; omega
        rw [e, Int.mul_assoc]
        omega
    have hl : ((bs.drop p).take b).length = b := by simp; omega
    have hb' : allIn 0 1 ((bs.drop p).take b) = true := allIn_take_of (List.all_eq_true.2 fun x hx => List.all_eq_true.1 hb x (List.mem_of_mem_drop hx)) b
    have hk := hd (b - a) ((bs.drop p).take b) hb' (by omega)
    rw [hl, List.take_take, show min (b - (b - a)) b = a by omega, h1.2.2, h2.2.2] at hk
    rw [show ((b : Int) - a).toNat = b - a by omega] at ap
    omega
  by_cases h : gi ls (i : Int) < gi ls (j : Int) ∨ (gi ls (i : Int) = gi ls (j : Int) ∧ i < j)
  · exact (key i j hi hj h1 h2 h).elim
  · by_cases h' : gi ls (j : Int) < gi ls (i : Int) ∨ (gi ls (j : Int) = gi ls (i : Int) ∧ j < i)
    · exact (key j i hj hi h2 h1 h').elim
    · omega

end Go.Proofs.Ytjbedonncjppfaa
