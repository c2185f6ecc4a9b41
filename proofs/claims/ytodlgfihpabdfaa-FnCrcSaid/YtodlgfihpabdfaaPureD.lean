/-
  Plain theory of remainders of bytes.
-/
import Derived.Test.YtodlgfihpabdfaaPureP
import Derived.Test.YtodlgfihpabdfaaPureT
namespace Go.Proofs.Ytodlgfihpabdfaa
set_option linter.unusedVariables false
set_option linter.unusedSimpArgs false
set_option linter.unnecessarySimpa false

/-- Seven turns the last three bits. -/
def flip7 (n : Nat) : Nat := n ^^^ 7
/-- One bit. -/
def crcT (n b : Nat) : Nat := if n / 128 ≠ b then flip7 (n % 128 * 2) else n % 128 * 2
/-- The bits of a byte from the first one on. -/
def crcK (n x : Nat) : Nat → Nat
  | 0 => n
  | k + 1 => crcT (crcK n x k) (x / 2 ^ (7 - k) % 2)
def crc8 (n x : Nat) : Nat := crcK n x 8
def crcN (xs : List Int) : Nat → Nat
  | 0 => 0
  | k + 1 => crc8 (crcN xs k) (gi xs k).toNat
def bytesIn (xs : List Int) : Bool := allIn 0 255 xs && decide ((xs.length : Int) ≤ 400)
def crcOf (xs : List Int) : Int := if bytesIn xs = true then crcN xs xs.length else -1

theorem flip7_lt : ∀ n, n < 256 → flip7 n < 256 := fun n h => Nat.xor_lt_two_pow (n := 8) h (by decide)
theorem crcT_lt {n b : Nat} : crcT n b < 256 := by
  unfold crcT
  split
  · exact flip7_lt _ (by omega)
  · omega
theorem crcK_lt {n x : Nat} (h : n < 256) : ∀ k, crcK n x k < 256
  | 0 => h
  | _ + 1 => crcT_lt
theorem crc8_lt {n x : Nat} (h : n < 256) : crc8 n x < 256 := crcK_lt h 8
theorem crcN_lt (xs : List Int) : ∀ k, crcN xs k < 256
  | 0 => by simp [crcN]
  | k + 1 => crc8_lt (crcN_lt xs k)
theorem crcOf_bd (xs : List Int) : -1 ≤ crcOf xs ∧ crcOf xs ≤ 255 := by
  unfold crcOf
  split
  · have := crcN_lt xs xs.length; omega
  · omega
theorem crc_self : ∀ n, n < 256 → crc8 n n = 0 := by decide +kernel
theorem crc_zero : crc8 0 0 = 0 := by decide +kernel
def unT (m b : Nat) : Nat := if m % 2 = 1 then (1 - b) * 128 + flip7 m / 2 else b * 128 + m / 2
theorem unT_crcT : ∀ n, n < 256 → ∀ b, b < 2 → unT (crcT n b) b = n := by decide +kernel
theorem crcT_inj {n n' b : Nat} (h : n < 256) (h' : n' < 256) (hb : b < 2) (e : crcT n b = crcT n' b) : n = n' := by
  rw [← unT_crcT n h b hb, e, unT_crcT n' h' b hb]
theorem crcK_inj {n n' x : Nat} (h : n < 256) (h' : n' < 256) : ∀ k, crcK n x k = crcK n' x k → n = n'
  | 0, e => e
  | k + 1, e => crcK_inj h h' k (crcT_inj (crcK_lt h k) (crcK_lt h' k) (Nat.mod_lt _ (by decide)) e)
def crcInv : List Nat := (List.range 256).map (crc8 0)
theorem crc0_nodup : crcInv.Nodup := by decide +kernel
theorem crc0_inj {x y : Nat} (hx : x < 256) (hy : y < 256) (e : crc8 0 x = crc8 0 y) : x = y := by
  have h := List.nodup_iff_pairwise_ne.1 crc0_nodup
  refine Classical.byContradiction fun hne => ?_
  have key : ∀ i j, i < j → j < 256 → crc8 0 i ≠ crc8 0 j := fun i j hij hj => by
    have := List.pairwise_iff_getElem.1 h i j (by simp [crcInv]; omega) (by simp [crcInv]; omega) hij
    simpa [crcInv] using this
  rcases Nat.lt_or_gt_of_ne hne with h1 | h1
  · exact key x y h1 hy e
  · exact key y x h1 hx e.symm

theorem bytesIn_iff {xs : List Int} : bytesIn xs = true ↔ allIn 0 255 xs = true ∧ xs.length ≤ 400 := by
  simp only [bytesIn, Bool.and_eq_true, decide_eq_true_eq]
  exact and_congr_right fun _ => by omega

theorem crcN_ext {xs ys : List Int} : ∀ k, (∀ i : Nat, i < k → gi xs i = gi ys i) → crcN xs k = crcN ys k
  | 0, _ => rfl
  | k + 1, h => by simp only [crcN]; rw [crcN_ext k fun i hi => h i (by omega), h k (by omega)]

/-- Bytes with their remainder have none. -/
theorem crc_end {xs : List Int} (h : 0 ≤ crcOf xs) (hl : xs.length ≤ 399) : crcOf (xs ++ [crcOf xs]) = 0 := by
  by_cases hb : bytesIn xs = true
  · obtain ⟨h1, h2⟩ := bytesIn_iff.1 hb
    have e : crcOf xs = crcN xs xs.length := by unfold crcOf; rw [if_pos hb]
    have h3 := crcN_lt xs xs.length
    have hb2 : bytesIn (xs ++ [crcOf xs]) = true := bytesIn_iff.2 ⟨by rw [allIn_app, h1, e]; simp [allIn, inB]; omega, by simp; omega⟩
    unfold crcOf at *
    rw [if_pos hb] at *
    rw [if_pos hb2, List.length_append, List.length_singleton]
    simp only [crcN]
    rw [crcN_ext (ys := xs) xs.length fun i hi => gi_app (by omega) (by omega), gi_snoc, Int.toNat_natCast, crc_self _ h3]
    rfl
  · unfold crcOf at h
    rw [if_neg hb] at h; omega
theorem crcN_zero (xs : List Int) : ∀ k, k ≤ xs.length → crcN (0 :: xs) (k + 1) = crcN xs k
  | 0, _ => by simp [crcN, gi, crc_zero]
  | k + 1, h => by
    rw [crcN, crcN_zero xs k (by omega)]
    simp only [crcN]
    congr 2
/-- Zeros ahead change nothing. -/
theorem crc_ahead {xs : List Int} (h : 0 ≤ crcOf xs) (hl : xs.length ≤ 399) : crcOf (0 :: xs) = crcOf xs := by
  by_cases hb : bytesIn xs = true
  · obtain ⟨h1, h2⟩ := bytesIn_iff.1 hb
    have hb2 : bytesIn (0 :: xs) = true := bytesIn_iff.2 ⟨by simp [allIn, inB] at *; exact h1, by simp; omega⟩
    unfold crcOf
    rw [if_pos hb, if_pos hb2, List.length_cons, crcN_zero xs _ (Nat.le_refl _)]
  · unfold crcOf at h
    rw [if_neg hb] at h; omega
theorem crcN_inj {xs ys : List Int} (h0 : 1 ≤ xs.length) (hx : 0 ≤ gi xs 0 ∧ gi xs 0 ≤ 255) (hy : 0 ≤ gi ys 0 ∧ gi ys 0 ≤ 255) (hr : ∀ i : Nat, 1 ≤ i → gi xs i = gi ys i) : ∀ k, crcN xs (k + 1) = crcN ys (k + 1) → gi xs 0 = gi ys 0
  | 0, e => by
    simp only [crcN] at e
    have := crc0_inj (by simp; omega) (by simp; omega) e
    simp only [Int.natCast_zero] at this
    omega
  | k + 1, e => by
    have e1 : crcN xs (k + 1 + 1) = crc8 (crcN xs (k + 1)) (gi xs ((k + 1 : Nat) : Int)).toNat := rfl
    have e2 : crcN ys (k + 1 + 1) = crc8 (crcN ys (k + 1)) (gi ys ((k + 1 : Nat) : Int)).toNat := rfl
    rw [e1, e2, hr (k + 1) (by omega)] at e
    exact crcN_inj h0 hx hy hr k (crcK_inj (crcN_lt xs _) (crcN_lt ys _) 8 e)
/-- A remainder depends on the first byte. -/
theorem crc_first {xs : List Int} {y : Int} (h : 0 ≤ crcOf xs) (h1 : 1 ≤ xs.length) (hy : 0 ≤ y ∧ y ≤ 255) (hne : y ≠ gi xs 0) : crcOf (xs.set 0 y) ≠ crcOf xs := by
  by_cases hb : bytesIn xs = true
  · obtain ⟨h2, h3⟩ := bytesIn_iff.1 hb
    have hb2 : bytesIn (xs.set 0 y) = true := bytesIn_iff.2 ⟨List.all_eq_true.2 fun x hx => by
      rcases List.mem_or_eq_of_mem_set hx with hx | rfl
      · exact List.all_eq_true.1 h2 x hx
      · exact inB_iff.2 hy, by simp; omega⟩
    unfold crcOf
    rw [if_pos hb, if_pos hb2, List.length_set]
    intro e
    obtain ⟨k, hk⟩ : ∃ k, xs.length = k + 1 := ⟨xs.length - 1, by omega⟩
    rw [hk] at e
    have e0 : gi (xs.set 0 y) 0 = y := gi_set_same (i := 0) (by omega)
    have := crcN_inj (xs := xs.set 0 y) (ys := xs) (by simp; omega) (by rw [e0]; exact hy) (allIn_gi h2 (by omega) (by omega)) (fun i hi => gi_set_other (by omega)) k (by omega)
    rw [e0] at this
    exact hne this
  · unfold crcOf at h
    rw [if_neg hb] at h; omega

/-- A turned bit makes another byte. -/
theorem turned_bit {x : Int} (h0 : 0 ≤ x) (h1 : x ≤ 255) {k : Nat} (hk : k < 8) :
    numOf ((bitsOf x 8).set k (1 - gi (bitsOf x 8) k)) ≠ x ∧ 0 ≤ numOf ((bitsOf x 8).set k (1 - gi (bitsOf x 8) k)) ∧ numOf ((bitsOf x 8).set k (1 - gi (bitsOf x 8) k)) ≤ 255 := by
  have hl : (bitsOf x 8).length = 8 := bitsOf_length x 8
  have hb := bitsOf_in x 8
  have hgk := allIn_gi hb (i := (k : Int)) (by omega) (by omega)
  have hin : allIn 0 1 ((bitsOf x 8).set k (1 - gi (bitsOf x 8) k)) = true := List.all_eq_true.2 fun z hz => by
    rcases List.mem_or_eq_of_mem_set hz with hz | rfl
    · exact List.all_eq_true.1 hb z hz
    · exact inB_iff.2 (by omega)
  have hsl : ((bitsOf x 8).set k (1 - gi (bitsOf x 8) k)).length = 8 := by simp [hl]
  have hbd := numOf_bd hin
  rw [hsl] at hbd
  refine ⟨fun e => ?_, hbd.1, by have := hbd.2; omega⟩
  have h2 := bitsOf_numOf hin
  rw [hsl, e] at h2
  have h3 : gi (bitsOf x 8) k = gi ((bitsOf x 8).set k (1 - gi (bitsOf x 8) k)) k := by rw [← h2]
  rw [gi_set_same (by omega)] at h3
  omega
end Go.Proofs.Ytodlgfihpabdfaa
