/-
  Plain theory of codes: what is written is read, what is read was written; costs; lengths that are missing.
-/
import Derived.Test.YtkgkkkphihgdcaaPureL
import Derived.Test.YtkgkkkphihgdcaaPureP
namespace Go.Proofs.Ytkgkkkphihgdcaa
set_option linter.unusedVariables false
set_option linter.unusedSimpArgs false
set_option linter.unnecessarySimpa false

theorem sym_hit {ls bs : List Int} (hv : lengthsValid ls = true) (hb : allIn 0 1 bs = true) {p s : Nat} (hs : s < 8) (h : hits ls bs p s = true) : symAt ls bs p = s := by
  rcases symAt_spec ls bs p with ⟨_, h2⟩ | ⟨t, h1, h2, h3⟩
  · rw [h2 s hs] at h; cases h
  · rw [h1, hits_one hv h2 hs hb h3 h]

theorem codeBits_length (ls : List Int) (s : Int) : (codeBits ls s).length = (gi ls s).toNat := bitsOf_length _ _

/-- What is written is read. -/
theorem dec_of_enc {ls : List Int} (hv : lengthsValid ls = true) : ∀ {xs pre post : List Int}, allIn 0 7 xs = true → canEnc ls xs = true → allIn 0 1 (pre ++ encB ls xs ++ post) = true →
    decP ls (pre ++ encB ls xs ++ post) xs.length pre.length = some (xs, pre.length + (encB ls xs).length)
  | [], pre, post, _, _, _ => by simp [decP, encB]
  | s :: xs, pre, post, ha, hc, hb => by
    obtain ⟨⟨h0, h7⟩, ha'⟩ := allIn_cons.1 ha
    simp only [canEnc, List.all_cons, Bool.and_eq_true, decide_eq_true_eq] at hc
    have hc' : canEnc ls xs = true := hc.2
    have e1 : ((s.toNat : Nat) : Int) = s := by omega
    have hfit := codeAt_fit hv (i := s.toNat) (by omega) (by rw [e1]; exact hc.1)
    rw [e1] at hfit
    have eb : pre ++ encB ls (s :: xs) ++ post = (pre ++ codeBits ls s) ++ encB ls xs ++ post := by simp [encB]
    rw [eb] at hb ⊢
    have hh : hits ls ((pre ++ codeBits ls s) ++ encB ls xs ++ post) pre.length s.toNat = true := by
      rw [hits_iff, e1]
      refine ⟨hc.1, ?_, ?_⟩
      · simp only [List.length_append, codeBits_length]; omega
      · rw [List.append_assoc, List.append_assoc, List.drop_left, List.take_append_of_le_length (by rw [codeBits_length]; omega), List.take_of_length_le (by rw [codeBits_length]; omega)]
        unfold codeBits
        exact numOf_bitsOf _ _ hfit.1 (by omega)
    have hsym := sym_hit hv hb (s := s.toNat) (by omega) hh
    rw [e1] at hsym
    simp only [List.length_cons, decP]
    rw [hsym, if_neg (by omega)]
    have ih := dec_of_enc hv (xs := xs) (pre := pre ++ codeBits ls s) (post := post) ha' hc' hb
    rw [List.length_append, codeBits_length] at ih
    rw [ih]
    simp only [Option.map_some, encB, List.length_append, codeBits_length, Option.some.injEq, Prod.mk.injEq]
    exact ⟨trivial, by omega⟩

/-- What is read was written. -/
theorem enc_of_dec {ls bs : List Int} (hb : allIn 0 1 bs = true) : ∀ {k p : Nat} {out : List Int} {q : Nat}, decP ls bs k p = some (out, q) → p ≤ bs.length → encB ls out = (bs.drop p).take (q - p) ∧ p + k ≤ q
  | 0, p, out, q, h, _ => by
    simp only [decP, Option.some.injEq, Prod.mk.injEq] at h
    obtain ⟨rfl, rfl⟩ := h
    simp [encB]
  | k + 1, p, out, q, h, hp => by
    simp only [decP] at h
    rcases symAt_spec ls bs p with ⟨h1, _⟩ | ⟨s, h1, h2, h3⟩
    · rw [if_pos (by omega)] at h; cases h
    · rw [if_neg (by omega)] at h
      obtain ⟨⟨l, q'⟩, hl, he⟩ := Option.map_eq_some_iff.1 h
      simp only [Prod.mk.injEq] at he
      obtain ⟨rfl, rfl⟩ := he
      rw [hits_iff] at h3
      rw [h1] at hl
      obtain ⟨i1, i2⟩ := enc_of_dec hb hl (by omega)
      refine ⟨?_, by omega⟩
      rw [h1]
      have hlen : ((bs.drop p).take (gi ls (s : Int)).toNat).length = (gi ls (s : Int)).toNat := by simp; omega
      have hin : allIn 0 1 ((bs.drop p).take (gi ls (s : Int)).toNat) = true := allIn_take_of (List.all_eq_true.2 fun x hx => List.all_eq_true.1 hb x (List.mem_of_mem_drop hx)) _
      have hcb : codeBits ls (s : Int) = (bs.drop p).take (gi ls (s : Int)).toNat := by
        unfold codeBits
        rw [Int.toNat_natCast, ← h3.2.2]
        have := bitsOf_numOf hin
        rw [hlen] at this
        exact this
      show codeBits ls (s : Int) ++ encB ls l = _
      rw [hcb, i1, show q' - p = (gi ls (s : Int)).toNat + (q' - (p + (gi ls (s : Int)).toNat)) by omega, List.take_add, List.drop_drop]

/-- Fewer symbols have fewer bits. -/
theorem dec_fewer {ls bs : List Int} : ∀ {k p : Nat} {out : List Int} {q : Nat}, decP ls bs k p = some (out, q) → p ≤ bs.length → ∀ j, j ≤ k → ∃ q', decP ls bs j p = some (out.take j, q') ∧ q' ≤ q
  | k, p, out, q, h, hp, 0, _ => ⟨p, by simp [decP], ((decP_good h).2.2.2 hp).1⟩
  | 0, p, out, q, h, hp, j + 1, hj => by omega
  | k + 1, p, out, q, h, hp, j + 1, hj => by
    simp only [decP] at h ⊢
    rcases symAt_spec ls bs p with ⟨h1, _⟩ | ⟨s, h1, h2, h3⟩
    · rw [if_pos (by omega)] at h; cases h
    · rw [if_neg (by omega)] at h ⊢
      obtain ⟨⟨l, q'⟩, hl, he⟩ := Option.map_eq_some_iff.1 h
      simp only [Prod.mk.injEq] at he
      obtain ⟨rfl, rfl⟩ := he
      rw [hits_iff] at h3
      obtain ⟨q2, e1, e2⟩ := dec_fewer hl (by rw [h1]; omega) j (by omega)
      exact ⟨q2, by rw [e1]; simp, e2⟩

theorem hits_take {ls bs : List Int} {n p i : Nat} (h : hits ls (bs.take n) p i = true) : hits ls bs p i = true := by
  rw [hits_iff] at h ⊢
  obtain ⟨h1, h2, h3⟩ := h
  rw [List.length_take] at h2
  refine ⟨h1, by omega, ?_⟩
  rw [← h3]
  congr 1
  rw [List.drop_take, List.take_take]
  congr 1; omega
theorem dec_more {ls bs : List Int} (hv : lengthsValid ls = true) (hb : allIn 0 1 bs = true) {n : Nat} : ∀ {k p : Nat} {out : List Int} {q : Nat}, decP ls (bs.take n) k p = some (out, q) → decP ls bs k p = some (out, q)
  | 0, p, out, q, h => h
  | k + 1, p, out, q, h => by
    simp only [decP] at h ⊢
    rcases symAt_spec ls (bs.take n) p with ⟨h1, _⟩ | ⟨s, h1, h2, h3⟩
    · rw [if_pos (by omega)] at h; cases h
    · rw [if_neg (by omega)] at h
      have hs := sym_hit hv hb h2 (hits_take h3)
      rw [h1] at h
      rw [hs, if_neg (by omega)]
      obtain ⟨⟨l, q'⟩, hl, he⟩ := Option.map_eq_some_iff.1 h
      rw [dec_more hv hb hl]
      exact congrArg some he

theorem prefDec_parts {bs ls : List Int} {many : Int} {out : List Int} {q : Nat} (h : prefDec bs ls many = some (out, q)) : bitsOk bs = true ∧ lengthsValid ls = true ∧ 0 ≤ many ∧ many ≤ 40 ∧ decP ls bs many.toNat 0 = some (out, q) := by
  unfold prefDec at h
  split at h
  · rename_i hk
    simp only [Bool.and_eq_true, inB_iff] at hk
    exact ⟨hk.1, hk.2.1, hk.2.2.1, hk.2.2.2, h⟩
  · cases h
theorem prefDec_of {bs ls : List Int} {many : Int} (h1 : bitsOk bs = true) (h2 : lengthsValid ls = true) (h3 : 0 ≤ many ∧ many ≤ 40) : prefDec bs ls many = decP ls bs many.toNat 0 := by
  unfold prefDec
  rw [if_pos (by simp only [Bool.and_eq_true, inB_iff]; exact ⟨h1, h2, h3⟩)]
theorem prefDec_facts {bs ls : List Int} {many : Int} {out : List Int} {q : Nat} (h : prefDec bs ls many = some (out, q)) : (out.length : Int) = many ∧ allIn 0 7 out = true ∧ q ≤ bs.length ∧ bs.length ≤ 600 ∧ many ≤ q := by
  obtain ⟨h1, h2, h3, h4, h5⟩ := prefDec_parts h
  obtain ⟨i1, i2, _, i4⟩ := decP_good h5
  obtain ⟨b1, b2⟩ := bitsOk_iff.1 h1
  have := enc_of_dec b2 h5 (Nat.zero_le _)
  have := i4 (Nat.zero_le _)
  exact ⟨by omega, i2, by omega, b1, by omega⟩
theorem pref_fewer {bs ls : List Int} {many : Int} {out : List Int} {q : Nat} (h : prefDec bs ls many = some (out, q)) {j : Nat} (hj : (j : Int) ≤ many) : ∃ q', prefDec bs ls j = some (out.take j, q') ∧ q' ≤ q := by
  obtain ⟨h1, h2, h3, h4, h5⟩ := prefDec_parts h
  obtain ⟨q', e1, e2⟩ := dec_fewer h5 (Nat.zero_le _) j (by omega)
  exact ⟨q', by rw [prefDec_of h1 h2 (by omega), Int.toNat_natCast]; exact e1, e2⟩
theorem pref_torn {bs ls : List Int} {many : Int} {out : List Int} {q : Nat} (h : prefDec bs ls many = some (out, q)) (hm : many ≠ 0) : prefDec (bs.take (q - 1)) ls many = none := by
  obtain ⟨h1, h2, h3, h4, h5⟩ := prefDec_parts h
  obtain ⟨b1, b2⟩ := bitsOk_iff.1 h1
  have hq := (enc_of_dec b2 h5 (Nat.zero_le _)).2
  cases hd : prefDec (bs.take (q - 1)) ls many with
  | none => rfl
  | some r =>
    exfalso
    obtain ⟨out', q'⟩ := r
    obtain ⟨_, _, _, _, g5⟩ := prefDec_parts hd
    have g6 := ((decP_good g5).2.2.2 (Nat.zero_le _)).2
    have g7 := dec_more h2 b2 g5
    rw [h5] at g7
    simp only [Option.some.injEq, Prod.mk.injEq] at g7
    rw [List.length_take] at g6
    omega
theorem pref_written {bs ls : List Int} {many : Int} {out : List Int} {q : Nat} (h : prefDec bs ls many = some (out, q)) : prefOk out ls = true ∧ prefBits out ls = bs.take q := by
  obtain ⟨h1, h2, h3, h4, h5⟩ := prefDec_parts h
  obtain ⟨b1, b2⟩ := bitsOk_iff.1 h1
  obtain ⟨i1, i2, i3, _⟩ := decP_good h5
  have hk : prefOk out ls = true := by
    have : listOk out = true := listOk_iff.2 ⟨by omega, i2⟩
    simp [prefOk, this, h2, i3]
  refine ⟨hk, ?_⟩
  unfold prefBits
  rw [if_pos hk, (enc_of_dec b2 h5 (Nat.zero_le _)).1]
  simp
theorem prefOk_parts {xs ls : List Int} (h : prefOk xs ls = true) : listOk xs = true ∧ lengthsValid ls = true ∧ canEnc ls xs = true := by
  simpa [prefOk, Bool.and_eq_true] using h
theorem pref_read {xs ls : List Int} (h : prefOk xs ls = true) : prefDec (prefBits xs ls) ls xs.length = some (xs, (prefBits xs ls).length) := by
  obtain ⟨h1, h2, h3⟩ := prefOk_parts h
  obtain ⟨l1, l2⟩ := listOk_iff.1 h1
  have e : prefBits xs ls = encB ls xs := by unfold prefBits; rw [if_pos h]
  have hb := encB_in ls xs
  have hlen := encB_len (lengthsOk_iff.1 (lengthsOk_of_valid h2).1).2 (xs := xs)
  rw [e, prefDec_of (bitsOk_iff.2 ⟨by omega, hb⟩) h2 (by omega), Int.toNat_natCast]
  have := dec_of_enc h2 (xs := xs) (pre := []) (post := []) l2 h3 (by simpa using hb)
  simpa using this

/-! ### Lists one behind the other -/
theorem pref_join {xs ls : List Int} (h : prefOk xs ls = true) (k : Nat) : prefOk (xs.take k) ls = true ∧ prefOk (xs.drop k) ls = true ∧ prefBits (xs.take k) ls ++ prefBits (xs.drop k) ls = prefBits xs ls := by
  obtain ⟨h1, h2, h3⟩ := prefOk_parts h
  obtain ⟨l1, l2⟩ := listOk_iff.1 h1
  have a1 : prefOk (xs.take k) ls = true := by
    have : listOk (xs.take k) = true := listOk_iff.2 ⟨by simp; omega, allIn_take_of l2 k⟩
    simp [prefOk, this, h2, canEnc_take h3 k]
  have a2 : prefOk (xs.drop k) ls = true := by
    have t1 : listOk (xs.drop k) = true := listOk_iff.2 ⟨by simp; omega, List.all_eq_true.2 fun x hx => List.all_eq_true.1 l2 x (List.mem_of_mem_drop hx)⟩
    have t2 : canEnc ls (xs.drop k) = true := List.all_eq_true.2 fun x hx => List.all_eq_true.1 h3 x (List.mem_of_mem_drop hx)
    simp [prefOk, t1, h2, t2]
  refine ⟨a1, a2, ?_⟩
  unfold prefBits
  rw [if_pos a1, if_pos a2, if_pos h, ← encB_app, List.take_append_drop]

/-! ### How many bits -/
theorem encB_cost {xs ls : List Int} (ha : allIn 0 7 xs = true) (hl : lengthsOk ls = true) : ∀ k, k ≤ xs.length → ((encB ls (xs.take k)).length : Int) = sumN (fun s => gi (cntF xs k) s * gi ls s) 8
  | 0, _ => by
    have h0 : sumN (fun s => gi (cntF xs 0) s * gi ls s) 8 = sumN (fun _ => 0) 8 := sumN_ext fun i _ => by
      have : gi (cntF xs 0) (i : Int) = 0 := zeros_gi i
      rw [this]; simp
    rw [h0, sumN_zero]; rfl
  | k + 1, hk => by
    have hx := allIn_gi ha (i := (k : Int)) (by omega) (by omega)
    have e1 : (((gi xs k).toNat : Nat) : Int) = gi xs k := by omega
    have hg := lengths_at hl (gi xs k).toNat
    rw [e1] at hg
    rw [encB_take (by omega), List.length_append, codeBits_length, Int.natCast_add, encB_cost ha hl k (by omega)]
    have hsum : sumN (fun s => gi (cntF xs (k + 1)) s * gi ls s) 8 = sumN (fun j => if j = (gi xs k).toNat then (gi (cntF xs k) (gi xs k) + 1) * gi ls (gi xs k) else (fun s : Nat => gi (cntF xs k) s * gi ls s) j) 8 := by
      refine sumN_ext fun i hi => ?_
      simp only [cntF]
      by_cases e : i = (gi xs k).toNat
      · rw [if_pos e, e, gi_set_same (by rw [cntF_length]; omega), e1]
      · rw [if_neg e, gi_set_other (Ne.symm e)]
    rw [hsum, sumN_upd (by omega)]
    rw [e1, Int.add_mul]
    omega
theorem occ_some {xs : List Int} {s : Int} : ∀ k, 0 < occ xs s k → ∃ j : Nat, j < k ∧ gi xs j = s
  | 0, h => by simp [occ] at h
  | k + 1, h => by
    by_cases e : gi xs k = s
    · exact ⟨k, by omega, e⟩
    · simp only [occ, if_neg e] at h
      obtain ⟨j, h1, h2⟩ := occ_some (xs := xs) (s := s) k (by omega)
      exact ⟨j, by omega, h2⟩
theorem pref_cost {xs ls : List Int} (h : prefOk xs ls = true) : lengthsCost (cntOf xs) ls = (prefBits xs ls).length := by
  obtain ⟨h1, h2, h3⟩ := prefOk_parts h
  obtain ⟨l1, l2⟩ := listOk_iff.1 h1
  have hc := encB_cost l2 (lengthsOk_of_valid h2).1 xs.length (Nat.le_refl _)
  rw [List.take_length] at hc
  have e : prefBits xs ls = encB ls xs := by unfold prefBits; rw [if_pos h]
  rw [e, hc]
  exact lengthsCost_of (cntOf_ok h1).1 h2 fun i hi hp => by
    have := cntF_gi l2 hi xs.length (Nat.le_refl _)
    rw [show gi (cntOf xs) (i : Int) = gi (cntF xs xs.length) i from rfl, this] at hp
    obtain ⟨j, hj, ej⟩ := occ_some _ hp
    have h4 := List.all_eq_true.1 h3 xs[j] (List.getElem_mem hj)
    rw [← gi_nat hj, ej] at h4
    simpa using h4

/-! ### Lengths may be missing -/
theorem kraft_zero {ls : List Int} (hl : lengthsOk ls = true) {k : Nat} (hk : k < 8) : lengthsOk (ls.set k 0) = true ∧ kraft (ls.set k 0) ≤ kraft ls ∧ 0 ≤ kraft (ls.set k 0) := by
  obtain ⟨l8, la⟩ := lengthsOk_iff.1 hl
  have hok : lengthsOk (ls.set k 0) = true := lengthsOk_iff.2 ⟨by simp [l8], List.all_eq_true.2 fun x hx => by
    rcases List.mem_or_eq_of_mem_set hx with hx | rfl
    · exact List.all_eq_true.1 la x hx
    · rfl⟩
  refine ⟨hok, ?_, (kraft_bd (lengthsOk_iff.1 hok).2).1⟩
  rw [kraft_sumN, kraft_sumN, List.length_set, l8]
  refine sumN_le fun i hi => ?_
  by_cases e : k = i
  · subst e; rw [gi_set_same (by omega)]; exact part_nonneg _
  · rw [gi_set_other e]; exact Int.le_refl _
theorem lengths_part {ls : List Int} (h : lengthsValid ls = true) {k : Nat} (hk : k < 8) : kraftOf (ls.set k 0) ≤ kraftOf ls ∧ lengthsValid (ls.set k 0) = decide (0 < kraftOf (ls.set k 0)) := by
  obtain ⟨h1, h2⟩ := lengthsOk_of_valid h
  obtain ⟨g1, g2, g3⟩ := kraft_zero h1 hk
  have e1 : kraftOf ls = kraft ls := by unfold kraftOf; rw [if_pos h1]
  have e2 : kraftOf (ls.set k 0) = kraft (ls.set k 0) := by unfold kraftOf; rw [if_pos g1]
  refine ⟨by omega, ?_⟩
  unfold lengthsValid
  rw [e2]
  by_cases hp : 0 < kraft (ls.set k 0)
  · rw [decide_eq_true hp]; exact inB_iff.2 (by omega)
  · rw [decide_eq_false hp]; exact inB_no (by omega)

/-! ### No code begins another one -/
theorem codes_apart {ls : List Int} {i k : Nat} (hi : i < 8) (hk : k < 8) (hik : i ≠ k) (h0 : 0 < gi ls (i : Int)) (h1 : 0 < gi ls (k : Int)) (h : gi ls (i : Int) ≤ gi ls (k : Int)) :
    codeAt ls k / 2 ^ (gi ls (k : Int) - gi ls (i : Int)).toNat ≠ codeAt ls i := by
  have hp : (0 : Int) < 2 ^ (gi ls (k : Int) - gi ls (i : Int)).toNat := Int.pow_pos (by decide)
  by_cases hc : gi ls (i : Int) < gi ls (k : Int) ∨ (gi ls (i : Int) = gi ls (k : Int) ∧ i < k)
  · have ap := codeAt_apart hi hk h0 hc
    have : codeAt ls i + 1 ≤ codeAt ls k / 2 ^ (gi ls (k : Int) - gi ls (i : Int)).toNat := (Int.le_ediv_iff_mul_le hp).2 (by rw [Int.mul_comm]; exact ap)
    omega
  · have e : gi ls (k : Int) = gi ls (i : Int) := by omega
    have ap := codeAt_apart hk hi h1 (.inr ⟨e, by omega⟩)
    rw [e, Int.sub_self] at ap ⊢
    simp only [Int.toNat_zero, Int.pow_zero, Int.one_mul, Int.ediv_one] at ap ⊢
    omega
theorem codes_order {ls : List Int} {i k : Nat} (hi : i < 8) (hk : k < 8) (h0 : 0 < gi ls (i : Int)) :
    (gi ls (i : Int) < gi ls (k : Int) → codeAt ls i * 2 ^ (gi ls (k : Int) - gi ls (i : Int)).toNat < codeAt ls k) ∧ (gi ls (i : Int) = gi ls (k : Int) → i < k → codeAt ls i < codeAt ls k) := by
  refine ⟨fun h => ?_, fun h1 h2 => ?_⟩
  · have ap := codeAt_apart hi hk h0 (.inl h)
    have hp : (0 : Int) < 2 ^ (gi ls (k : Int) - gi ls (i : Int)).toNat := Int.pow_pos (by decide)
    rw [Int.mul_add, Int.mul_comm] at ap
    omega
  · have ap := codeAt_apart hi hk h0 (.inr ⟨h1, h2⟩)
    rw [h1, Int.sub_self] at ap
    simp only [Int.toNat_zero, Int.pow_zero, Int.one_mul] at ap
    omega
end Go.Proofs.Ytkgkkkphihgdcaa
