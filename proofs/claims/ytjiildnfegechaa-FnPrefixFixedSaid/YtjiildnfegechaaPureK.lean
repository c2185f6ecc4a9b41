/-
  Plain theory of best codes: what the lengths of counts are, that no others cost less, and what follows.
-/
import Derived.Test.YtjiildnfegechaaPureH
import Derived.Test.YtjiildnfegechaaPure3
namespace Go.Proofs.Ytjiildnfegechaa
set_option linter.unusedVariables false
set_option linter.unusedSimpArgs false
set_option linter.unnecessarySimpa false

def grpsF (cs : List Int) : Nat → List Grp
  | 0 => []
  | k + 1 => grpsF cs k ++ (if 0 < gi cs k then [⟨gi cs k, [(k : Int)]⟩] else [])
def grps (cs : List Int) : List Grp := grpsF cs 8
def zeros8 : List Int := List.replicate 8 0
def lensOk (cs : List Int) : Bool := countsOk cs && !decide (cs.sum = 0)
/-- The first symbol of the first group. -/
def firstSym (F : List Grp) : Int := gi (grpAt F 0).ss 0
def lens0 (cs : List Int) : List Int := if (grps cs).length = 1 then zeros8.set (firstSym (grps cs)).toNat 1 else huffF ((grps cs).length - 1) (grps cs) zeros8
def lensOf (cs : List Int) : List Int := if lensOk cs = true then lens0 cs else []

theorem grpsF_mem {cs : List Int} {g : Grp} : ∀ {k : Nat}, g ∈ grpsF cs k ↔ ∃ i : Nat, i < k ∧ 0 < gi cs i ∧ g = ⟨gi cs i, [(i : Int)]⟩
  | 0 => by simp [grpsF]
  | k + 1 => by
    simp only [grpsF, List.mem_append, grpsF_mem (k := k)]
    constructor
    · rintro (⟨i, h1, h2, h3⟩ | h)
      · exact ⟨i, by omega, h2, h3⟩
      · by_cases hc : 0 < gi cs k
        · rw [if_pos hc] at h; exact ⟨k, by omega, hc, by simpa using h⟩
        · rw [if_neg hc] at h; cases h
    · rintro ⟨i, h1, h2, h3⟩
      by_cases e : i = k
      · subst e; right; rw [if_pos h2]; simp [h3]
      · left; exact ⟨i, by omega, h2, h3⟩

theorem grpsF_len {cs : List Int} : ∀ k : Nat, (grpsF cs k).length ≤ k ∧ ((grpsF cs k).map fun g => (g.ss.length : Int)).sum = (grpsF cs k).length
  | 0 => by simp [grpsF]
  | k + 1 => by
    obtain ⟨h1, h2⟩ := grpsF_len (cs := cs) k
    simp only [grpsF]
    split <;> simp [h2] <;> omega

theorem zeros_gi (i : Int) : gi zeros8 i = 0 := by
  have h : allIn 0 0 zeros8 = true := by decide
  have := allIn_gi0 h (by omega) (by omega) i
  omega

theorem grpsF_apart {cs : List Int} : ∀ k : Nat, (grpsF cs k).Pairwise fun g h => ∀ s ∈ g.ss, s ∉ h.ss
  | 0 => by simp [grpsF]
  | k + 1 => by
    simp only [grpsF]
    refine List.pairwise_append.2 ⟨grpsF_apart k, by split <;> simp, fun g hg h hh s hs => ?_⟩
    obtain ⟨i, h1, _, rfl⟩ := grpsF_mem.1 hg
    split at hh
    · simp at hh hs
      subst hh; subst hs
      simp; omega
    · cases hh

theorem hinv0 (cs : List Int) : HInv (fun i => gi cs i) (grps cs) zeros8 := by
  have hm : ∀ g ∈ grps cs, ∃ i : Nat, i < 8 ∧ 0 < gi cs i ∧ g = ⟨gi cs i, [(i : Int)]⟩ := fun g hg => grpsF_mem.1 hg
  refine ⟨rfl, ?_, grpsF_apart 8, ?_, fun i _ _ => zeros_gi i, ?_, ?_, ?_, ?_, ?_, ?_⟩
  · intro g hg; obtain ⟨i, _, _, rfl⟩ := hm g hg; simp
  · intro g hg s hs; obtain ⟨i, h, _, rfl⟩ := hm g hg; simp at hs; omega
  · have := grpsF_len (cs := cs) 8
    unfold grps; omega
  · intro g hg; obtain ⟨i, _, _, rfl⟩ := hm g hg; simp
  · intro g hg; obtain ⟨i, _, _, rfl⟩ := hm g hg; simp [zeros_gi, pw]
  · intro g hg s hs; obtain ⟨i, _, _, rfl⟩ := hm g hg; simp [zeros_gi]
  · intro g hg s hs h2; obtain ⟨i, _, _, rfl⟩ := hm g hg; simp at h2
  · intro g hg; obtain ⟨i, _, h, rfl⟩ := hm g hg; exact h

theorem kraft_sumN (xs : List Int) : kraft xs = sumN (fun i => part (gi xs i)) xs.length := by
  have : ∀ k, k ≤ xs.length → kraft (xs.take k) = sumN (fun i => part (gi xs i)) k := by
    intro k
    induction k with
    | zero => intro _; rfl
    | succ k ih => intro h; rw [kraft_take (by omega), ih (by omega)]; rfl
  have := this xs.length (Nat.le_refl _)
  rwa [List.take_length] at this
theorem sum_sumN (xs : List Int) : xs.sum = sumN (fun i => gi xs i) xs.length := by
  have : ∀ k, k ≤ xs.length → (xs.take k).sum = sumN (fun i => gi xs i) k := by
    intro k
    induction k with
    | zero => intro _; rfl
    | succ k ih => intro h; rw [sum_take (by omega), ih (by omega)]; rfl
  have := this xs.length (Nat.le_refl _)
  rwa [List.take_length] at this

theorem part_pw {l : Int} (h : 0 < l) : part l = pw l.toNat := by
  rw [part_pos h]; unfold pw
  congr 1
  omega
theorem part_nonneg (l : Int) : 0 ≤ part l := by
  by_cases h : 0 < l
  · rw [part_pw h]; exact Int.le_of_lt (pw_pos _)
  · rw [part_zero h]; omega

/-! ### Others cost no less -/
def rival (cs ls : List Int) (k : Nat) : List (Int × Nat) := (grpsF cs k).map fun g => (g.w, (gi ls (gi g.ss 0)).toNat)
theorem rival_fst (cs ls : List Int) (k : Nat) : (rival cs ls k).map Prod.fst = (grpsF cs k).map (·.w) := by simp [rival, List.map_map, Function.comp_def]
theorem cost_app (P Q : List (Int × Nat)) : cost (P ++ Q) = cost P + cost Q := by simp [cost, List.sum_append_int]
theorem kr_app (P Q : List (Int × Nat)) : kr (P ++ Q) = kr P + kr Q := by simp [kr, List.sum_append_int]
theorem gi_one (x : Int) : gi [x] 0 = x := rfl
theorem rival_cost {cs ls : List Int} (hc : ∀ i : Nat, 0 ≤ gi cs i) : ∀ k, (∀ i : Nat, i < k → 0 ≤ gi ls i) → cost (rival cs ls k) = sumN (fun i => gi cs i * gi ls i) k
  | 0, _ => rfl
  | k + 1, h => by
    have ih := rival_cost (ls := ls) hc k fun i hi => h i (by omega)
    have h0 := h k (by omega)
    unfold rival at ih ⊢
    simp only [grpsF, List.map_append, cost_app, ih, sumN]
    congr 1
    split
    · simp only [List.map_cons, List.map_nil, cost_cons, gi_one]
      have : ((gi ls (k : Int)).toNat : Int) = gi ls k := by omega
      rw [this]; simp [cost]
    · have : gi cs k = 0 := by have := hc k; omega
      rw [this]; simp [cost]
theorem rival_kr {cs ls : List Int} : ∀ k, (∀ i : Nat, i < k → 0 < gi cs i → 0 < gi ls i) → kr (rival cs ls k) ≤ sumN (fun i => part (gi ls i)) k
  | 0, _ => by simp [rival, grpsF, kr, sumN]
  | k + 1, h => by
    have ih := rival_kr (cs := cs) (ls := ls) k fun i hi => h i (by omega)
    have h0 := h k (by omega)
    have hp := part_nonneg (gi ls k)
    unfold rival at ih ⊢
    simp only [grpsF, List.map_append, kr_app, sumN]
    split
    · rename_i hk
      simp only [List.map_cons, List.map_nil, kr_cons, gi_one]
      rw [part_pw (h0 hk)] at *
      simp [kr] at *
      omega
    · simp [kr] at *; omega

structure BestL (cs out : List Int) : Prop where
  len : out.length = 8
  range : ∀ i : Nat, i < 8 → 0 ≤ gi out i ∧ gi out i ≤ 7
  used : ∀ i : Nat, i < 8 → (0 < gi cs i ↔ 0 < gi out i)
  least : ∀ ls : List Int, lengthsOk ls = true → kraft ls ≤ 256 → (∀ i : Nat, i < 8 → 0 < gi cs i → 0 < gi ls i) → sumN (fun i => gi cs i * gi out i) 8 ≤ sumN (fun i => gi cs i * gi ls i) 8
  one : (grps cs).length = 1 → kraft out = 128
  more : 2 ≤ (grps cs).length → kraft out = 256

theorem counts_at {cs : List Int} (h : countsOk cs = true) (i : Nat) : 0 ≤ gi cs i ∧ gi cs i ≤ 999 := allIn_gi0 (countsOk_iff.1 h).2 (by omega) (by omega) i
theorem lengths_at {ls : List Int} (h : lengthsOk ls = true) (i : Nat) : 0 ≤ gi ls i ∧ gi ls i ≤ 8 := allIn_gi0 (lengthsOk_iff.1 h).2 (by omega) (by omega) i

theorem grps_some {cs : List Int} (h : lensOk cs = true) : 1 ≤ (grps cs).length := by
  simp only [lensOk, Bool.and_eq_true, Bool.not_eq_true', decide_eq_false_iff_not] at h
  obtain ⟨h1, h2⟩ := h
  refine Classical.byContradiction fun hn => h2 ?_
  have h0 : grps cs = [] := List.eq_nil_of_length_eq_zero (by omega)
  rw [sum_sumN, (countsOk_iff.1 h1).1, ← sumN_zero 8]
  refine sumN_ext fun i hi => ?_
  refine Classical.byContradiction fun hne => ?_
  have := counts_at h1 i
  have hm : (⟨gi cs i, [(i : Int)]⟩ : Grp) ∈ grps cs := grpsF_mem.2 ⟨i, hi, by omega, rfl⟩
  rw [h0] at hm; cases hm

theorem lens_best {cs : List Int} (h : lensOk cs = true) : BestL cs (lens0 cs) := by
  have hs := grps_some h
  have h1 : countsOk cs = true := by simp only [lensOk, Bool.and_eq_true] at h; exact h.1
  have hc := counts_at h1
  have riv : ∀ {m : Int}, Merge ((grps cs).map (·.w)) m → ∀ ls : List Int, lengthsOk ls = true → kraft ls ≤ 256 → (∀ i : Nat, i < 8 → 0 < gi cs i → 0 < gi ls i) → m ≤ sumN (fun i => gi cs i * gi ls i) 8 := by
    intro m hm ls hl hk hu
    rw [← rival_cost (fun i => (hc i).1) 8 fun i _ => (lengths_at hl i).1]
    refine merge_le hm (fun w hw => ?_) _ (by rw [rival_fst]; exact List.Perm.refl _) (fun p hp => ?_) ?_
    · obtain ⟨g, hg, rfl⟩ := List.mem_map.1 hw
      exact Int.le_of_lt ((hinv0 cs).pos g hg)
    · obtain ⟨g, hg, rfl⟩ := List.mem_map.1 hp
      obtain ⟨i, _, _, rfl⟩ := grpsF_mem.1 hg
      have := lengths_at hl i
      simp only [gi_one]; omega
    · have := rival_kr (cs := cs) (ls := ls) 8 hu
      rw [kraft_sumN, (lengthsOk_iff.1 hl).1] at hk
      omega
  by_cases hn : (grps cs).length = 1
  · obtain ⟨g, hg⟩ : ∃ g, grps cs = [g] := List.length_eq_one_iff.1 hn
    obtain ⟨s, s8, sp, rfl⟩ := grpsF_mem.1 (show g ∈ grpsF cs 8 by rw [show grpsF cs 8 = [g] from hg]; simp)
    have hu : ∀ i : Nat, i < 8 → (0 < gi cs i ↔ i = s) := fun i hi => by
      constructor
      · intro hp
        have : (⟨gi cs i, [(i : Int)]⟩ : Grp) ∈ grps cs := grpsF_mem.2 ⟨i, hi, hp, rfl⟩
        rw [hg] at this
        simp at this
        exact_mod_cast this.2
      · rintro rfl; exact sp
    have hf : (firstSym (grps cs)).toNat = s := by rw [hg]; simp [firstSym, grpAt, gi]
    have ho : lens0 cs = zeros8.set s 1 := by unfold lens0; rw [if_pos hn, hf]
    have hgi : ∀ i : Nat, gi (lens0 cs) i = if i = s then 1 else 0 := fun i => by
      rw [ho]
      by_cases e : i = s
      · subst e; rw [if_pos rfl, gi_set_same (by simpa [zeros8] using s8)]
      · rw [if_neg e, gi_set_other (Ne.symm e), zeros_gi]
    refine ⟨by rw [ho]; simp [zeros8], fun i hi => ?_, fun i hi => ?_, fun ls hl hk hU => ?_, fun _ => ?_, fun h2 => by omega⟩
    · rw [hgi i]; split <;> omega
    · rw [hgi i, hu i hi]; split <;> simp_all
    · refine sumN_le fun i hi => ?_
      rw [hgi i]
      by_cases e : i = s
      · subst e
        rw [if_pos rfl]
        have := hU i hi sp
        exact Int.mul_le_mul_of_nonneg_left (by omega) (by omega)
      · rw [if_neg e]
        have : gi cs i = 0 := by
          have := hc i
          have := (hu i hi)
          by_cases hp : 0 < gi cs i
          · exact absurd (this.1 hp) e
          · omega
        rw [this]; simp
    · rw [kraft_sumN, ho, show (zeros8.set s 1).length = 8 by simp [zeros8]]
      rw [sumN_ext (g := fun j => if j = s then 128 else (fun _ => 0) j) fun i hi => ?_]
      · rw [sumN_upd s8, sumN_zero]; rfl
      · have := hgi i
        rw [ho] at this
        rw [this]
        by_cases e : i = s
        · rw [if_pos e, if_pos e]; rfl
        · rw [if_neg e, if_neg e]; rfl
  · obtain ⟨k, hk⟩ : ∃ k, (grps cs).length = k + 1 := ⟨(grps cs).length - 1, by omega⟩
    have ho : lens0 cs = huffF k (grps cs) zeros8 := by unfold lens0; rw [if_neg hn, hk]; rfl
    obtain ⟨g, m, g1, g2, g3, g4, g5⟩ := huff_run hk (hinv0 cs)
    rw [← ho] at g1 g3
    have g6 := g5 (by omega)
    have hlen : (g.ss.length : Int) ≤ 8 := by have := g1.few; simpa using this
    have hin : ∀ i : Nat, i < 8 → ((i : Int) ∈ g.ss ↔ 0 < gi cs i) := fun i hi => by
      rw [g4]
      constructor
      · rintro ⟨h, hh, hs⟩
        obtain ⟨j, _, h3, rfl⟩ := grpsF_mem.1 hh
        simp at hs
        rw [hs]; exact h3
      · intro hp
        exact ⟨_, grpsF_mem.2 ⟨i, hi, hp, rfl⟩, by simp⟩
    have hpos : ∀ i : Nat, i < 8 → (0 < gi cs i ↔ 0 < gi (lens0 cs) i) := fun i hi => by
      rw [← hin i hi]
      constructor
      · intro hp; have := g1.long g (by simp) i hp g6; omega
      · intro hp
        refine Classical.byContradiction fun hx => ?_
        have := g1.none i hi (by simpa using hx)
        omega
    refine ⟨g1.len, fun i hi => ?_, hpos, fun ls hl hk' hU => ?_, fun h1 => absurd h1 hn, fun _ => ?_⟩
    · by_cases hp : (i : Int) ∈ g.ss
      · have := g1.short g (by simp) i hp; omega
      · have := g1.none i hi (by simpa using hp); omega
    · rw [g3]
      have := riv g2 ls hl hk' hU
      have h0 : sumN (fun i => gi cs i * gi zeros8 i) 8 = 0 := by
        rw [← sumN_zero 8]; exact sumN_ext fun i _ => by rw [zeros_gi]; simp
      omega
    · rw [kraft_sumN, g1.len, sumN_ext (g := fun i => if (i : Int) ∈ g.ss then pw (gi (lens0 cs) i).toNat else 0) fun i hi => ?_]
      · rw [sumN_mem (fun i => pw (gi (lens0 cs) i).toNat) (g1.nodup g (by simp)) (by simpa using g1.range g (by simp)), ← g1.full g (by simp)]
        refine sum_map_congr fun s hs => ?_
        have := g1.range g (by simp) s hs
        have e : ((s.toNat : Nat) : Int) = s := by omega
        rw [e]
      · by_cases hp : (i : Int) ∈ g.ss
        · rw [if_pos hp, part_pw ((hpos i hi).1 ((hin i hi).1 hp))]
        · rw [if_neg hp, g1.none i hi (by simpa using hp)]; rfl

theorem lensOk_counts {cs : List Int} (h : lensOk cs = true) : countsOk cs = true := by simp only [lensOk, Bool.and_eq_true] at h; exact h.1
theorem lens_valid {cs : List Int} (h : lensOk cs = true) : lengthsOk (lens0 cs) = true ∧ lengthsValid (lens0 cs) = true ∧ (kraft (lens0 cs) = 128 ∨ kraft (lens0 cs) = 256) := by
  have B := lens_best h
  have hs := grps_some h
  have h1 : lengthsOk (lens0 cs) = true := lengthsOk_iff.2 ⟨B.len, List.all_eq_true.2 fun x hx => by
    obtain ⟨i, hi, rfl⟩ := List.getElem_of_mem hx
    rw [B.len] at hi
    have := B.range i hi
    rw [gi_nat (by rw [B.len]; exact hi)] at this
    exact inB_iff.2 (by omega)⟩
  have h2 : kraft (lens0 cs) = 128 ∨ kraft (lens0 cs) = 256 := by
    by_cases e : (grps cs).length = 1
    · exact .inl (B.one e)
    · exact .inr (B.more (by omega))
  refine ⟨h1, ?_, h2⟩
  unfold lengthsValid kraftOf
  rw [if_pos h1]
  rcases h2 with h2 | h2 <;> rw [h2] <;> rfl

/-! ### Costs of codes -/
theorem lcost_some {xs ys : List Int} : ∀ {k : Nat}, (∀ i : Nat, i < k → ¬ (0 < gi xs i ∧ gi ys i = 0)) → lcost xs ys k = some (sumN (fun i => gi xs i * gi ys i) k)
  | 0, _ => rfl
  | k + 1, h => lcost_step (lcost_some fun i hi => h i (by omega)) (h k (by omega))
theorem lcost_has {xs ys : List Int} : ∀ {k : Nat} {n : Int}, lcost xs ys k = some n → ∀ i : Nat, i < k → ¬ (0 < gi xs i ∧ gi ys i = 0)
  | 0, _, _, i, hi => by omega
  | k + 1, n, h, i, hi => by
    intro hb
    cases hk : lcost xs ys k with
    | none =>
      have := lcost_none hk 1
      rw [this] at h; cases h
    | some n' =>
      by_cases e : i = k
      · subst e
        simp only [lcost, hk] at h
        simp [hb] at h
      · exact lcost_has hk i (by omega) hb
theorem cost_nonneg {xs ys : List Int} (hx : countsOk xs = true) (hy : lengthsOk ys = true) : 0 ≤ sumN (fun i => gi xs i * gi ys i) 8 := by
  rw [← sumN_zero 8]
  exact sumN_le fun i _ => Int.mul_nonneg (counts_at hx i).1 (lengths_at hy i).1
theorem lengthsOk_of_valid {ls : List Int} (h : lengthsValid ls = true) : lengthsOk ls = true ∧ kraft ls ≤ 256 := by
  unfold lengthsValid kraftOf at h
  by_cases hk : lengthsOk ls = true
  · rw [if_pos hk] at h; exact ⟨hk, (inB_iff.1 h).2⟩
  · rw [if_neg hk] at h; exact absurd h (by decide)
theorem lengthsCost_of {xs ys : List Int} (hx : countsOk xs = true) (hy : lengthsValid ys = true) (h : ∀ i : Nat, i < 8 → 0 < gi xs i → 0 < gi ys i) : lengthsCost xs ys = sumN (fun i => gi xs i * gi ys i) 8 := by
  unfold lengthsCost
  rw [if_pos ⟨hx, hy⟩, (countsOk_iff.1 hx).1, lcost_some fun i hi hb => by have := h i hi hb.1; omega]
  rfl
theorem lengthsCost_ok {xs ys : List Int} (h : 0 ≤ lengthsCost xs ys) : countsOk xs = true ∧ lengthsValid ys = true ∧ (∀ i : Nat, i < 8 → 0 < gi xs i → 0 < gi ys i) ∧ lengthsCost xs ys = sumN (fun i => gi xs i * gi ys i) 8 := by
  by_cases hb : countsOk xs = true ∧ lengthsValid ys = true
  · obtain ⟨h1, h2⟩ := hb
    have hu : ∀ i : Nat, i < 8 → 0 < gi xs i → 0 < gi ys i := by
      unfold lengthsCost at h
      rw [if_pos ⟨h1, h2⟩, (countsOk_iff.1 h1).1] at h
      intro i hi hp
      cases hk : lcost xs ys 8 with
      | none => rw [hk] at h; exact absurd h (by decide)
      | some n =>
        have := lcost_has hk i hi
        have := lengths_at (lengthsOk_of_valid h2).1 i
        omega
    exact ⟨h1, h2, hu, lengthsCost_of h1 h2 hu⟩
  · unfold lengthsCost at h
    rw [if_neg hb] at h; omega
theorem lens_cost {cs : List Int} (h : lensOk cs = true) : lengthsCost cs (lens0 cs) = sumN (fun i => gi cs i * gi (lens0 cs) i) 8 :=
  lengthsCost_of (lensOk_counts h) (lens_valid h).2.1 fun i hi => ((lens_best h).used i hi).1
/-- No lengths cost less. -/
theorem lens_le {cs ls : List Int} (h : lensOk cs = true) (hl : 0 ≤ lengthsCost cs ls) : 0 ≤ lengthsCost cs (lens0 cs) ∧ lengthsCost cs (lens0 cs) ≤ lengthsCost cs ls := by
  obtain ⟨h1, h2, h3, h4⟩ := lengthsCost_ok hl
  obtain ⟨h5, h6⟩ := lengthsOk_of_valid h2
  rw [lens_cost h, h4]
  exact ⟨cost_nonneg h1 (lens_valid h).1, (lens_best h).least ls h5 h6 h3⟩

/-- A more frequent symbol has no longer code. -/
theorem lens_order {cs : List Int} (h : lensOk cs = true) {i k : Nat} (hi : i < 8) (hk : k < 8) (h1 : gi cs k < gi cs i) (h2 : 0 < gi cs k) : gi (lens0 cs) i ≤ gi (lens0 cs) k := by
  have B := lens_best h
  have V := lens_valid h
  have hne : i ≠ k := fun e => by subst e; omega
  refine Classical.byContradiction fun hn => ?_
  have hv := (lengthsOk_iff.1 V.1)
  have pi := (B.used i hi).1 (by omega)
  have pk := (B.used k hk).1 h2
  have G : ∀ j : Nat, gi (((lens0 cs).set i (gi (lens0 cs) k)).set k (gi (lens0 cs) i)) j = if j = k then gi (lens0 cs) i else (fun j => if j = i then gi (lens0 cs) k else gi (lens0 cs) j) j := fun j => by
    by_cases e : j = k
    · subst e; rw [if_pos rfl, gi_set_same (by simp [B.len, hk])]
    · rw [if_neg e, gi_set_other (Ne.symm e)]
      by_cases e2 : j = i
      · subst e2; simp only [if_true]; rw [gi_set_same (by rw [B.len]; exact hi)]
      · simp only [if_neg e2]; rw [gi_set_other (Ne.symm e2)]
  generalize hL : ((lens0 cs).set i (gi (lens0 cs) k)).set k (gi (lens0 cs) i) = L at G
  have hLl : L.length = 8 := by rw [← hL]; simp [B.len]
  have hLok : lengthsOk L = true := lengthsOk_iff.2 ⟨hLl, List.all_eq_true.2 fun x hx => by
    obtain ⟨j, hj, rfl⟩ := List.getElem_of_mem hx
    have := G j
    rw [← gi_nat hj, this]
    have r1 := B.range i hi
    have r2 := B.range k hk
    have r3 := B.range j (by omega)
    refine inB_iff.2 ?_
    dsimp only
    split
    · omega
    · split <;> omega⟩
  have hkr : kraft L = kraft (lens0 cs) := by
    rw [kraft_sumN, kraft_sumN, hLl, B.len]
    rw [sumN_ext (g := fun j => if j = k then part (gi (lens0 cs) i) else (fun j => if j = i then part (gi (lens0 cs) k) else part (gi (lens0 cs) j)) j) fun j hj => by
      rw [G j]; dsimp only; split
      · rfl
      · split <;> rfl]
    rw [sumN_upd hk, sumN_upd hi]
    rw [if_neg (Ne.symm hne)]; omega
  have hle := B.least L hLok (by rw [hkr]; rcases V.2.2 with e | e <;> omega) fun j hj hp => by
    rw [G j]; dsimp only
    have := (B.used j hj).1 hp
    split
    · omega
    · split <;> omega
  rw [sumN_ext (f := fun j : Nat => gi cs j * gi L j) (g := fun j => if j = k then gi cs k * gi (lens0 cs) i else (fun j => if j = i then gi cs i * gi (lens0 cs) k else gi cs j * gi (lens0 cs) j) j) fun j hj => by
      dsimp only
      rw [G j]; dsimp only; split
      · rename_i e; rw [e]
      · split
        · rename_i e; rw [e]
        · rfl] at hle
  rw [sumN_upd hk, sumN_upd hi] at hle
  rw [if_neg (Ne.symm hne)] at hle
  have : 0 < (gi cs i - gi cs k) * (gi (lens0 cs) i - gi (lens0 cs) k) := Int.mul_pos (by omega) (by omega)
  rw [Int.sub_mul, Int.mul_sub, Int.mul_sub] at this
  omega

/-- Two symbols have one bit each. -/
theorem sum_two : ∀ {a b : Nat} {f : Nat → Int}, a < 8 → b < 8 → a ≠ b → (∀ i, i < 8 → i ≠ a → i ≠ b → f i = 0) → sumN f 8 = f a + f b := by
  intro a b f ha hb hab h
  rw [sumN_ext (g := fun j => if j = a then f a else (fun j => if j = b then f b else (fun _ => 0) j) j) fun j hj => by
    show _ = if j = a then f a else if j = b then f b else 0
    split
    · rename_i e; rw [e]
    · split
      · rename_i e; rw [e]
      · rename_i e1 e2; exact h j hj e1 e2]
  rw [sumN_upd ha, sumN_upd hb, sumN_zero]
  dsimp only
  rw [if_neg hab]; omega
end Go.Proofs.Ytjiildnfegechaa
