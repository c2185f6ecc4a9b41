/-
  Plain theory of best codes: groups of symbols are joined, two of the least weights at a time; no other lengths cost less.
-/
import Derived.Test.YtjiildnfegechaaPureC
namespace Go.Proofs.Ytjiildnfegechaa
set_option linter.unusedVariables false
set_option linter.unusedSimpArgs false
set_option linter.unnecessarySimpa false

/-! ### Sums -/
def sumN (f : Nat → Int) : Nat → Int
  | 0 => 0
  | n + 1 => sumN f n + f n
theorem sumN_ext {f g : Nat → Int} : ∀ {n : Nat}, (∀ i, i < n → f i = g i) → sumN f n = sumN g n
  | 0, _ => rfl
  | n + 1, h => by simp only [sumN]; rw [sumN_ext (n := n) fun i hi => h i (by omega), h n (by omega)]
theorem sumN_add (f g : Nat → Int) : ∀ n, sumN (fun i => f i + g i) n = sumN f n + sumN g n
  | 0 => rfl
  | n + 1 => by simp only [sumN]; rw [sumN_add f g n]; omega
theorem sumN_le {f g : Nat → Int} : ∀ {n : Nat}, (∀ i, i < n → f i ≤ g i) → sumN f n ≤ sumN g n
  | 0, _ => Int.le_refl _
  | n + 1, h => by
    have h1 := sumN_le (n := n) fun i hi => h i (by omega)
    have h2 := h n (by omega)
    simp only [sumN]; omega
theorem sumN_upd {f : Nat → Int} {i : Nat} {x : Int} : ∀ {n : Nat}, i < n → sumN (fun j => if j = i then x else f j) n = sumN f n + (x - f i)
  | 0, h => by omega
  | n + 1, h => by
    simp only [sumN]
    by_cases e : n = i
    · subst e
      rw [if_pos rfl, sumN_ext (g := f) fun j hj => if_neg (by omega)]; omega
    · rw [if_neg e, sumN_upd (by omega)]; omega
theorem sumN_zero : ∀ n, sumN (fun _ => 0) n = 0
  | 0 => rfl
  | n + 1 => by simp only [sumN]; rw [sumN_zero n]; rfl
theorem sumN_mem (f : Nat → Int) {n : Nat} : ∀ {ss : List Int}, ss.Nodup → (∀ s ∈ ss, 0 ≤ s ∧ s < n) → sumN (fun i => if (i : Int) ∈ ss then f i else 0) n = (ss.map fun s => f s.toNat).sum
  | [], _, _ => by simp [sumN_zero]
  | s :: ss, hn, hr => by
    have hn' := List.nodup_cons.1 hn
    have h0 := hr s (by simp)
    have ih := sumN_mem f hn'.2 fun t ht => hr t (by simp [ht])
    have e : sumN (fun i => if (i : Int) ∈ s :: ss then f i else 0) n = sumN (fun j => if j = s.toNat then f s.toNat else (fun i : Nat => if (i : Int) ∈ ss then f i else 0) j) n := by
      refine sumN_ext fun i _ => ?_
      by_cases h : i = s.toNat
      · subst h
        rw [if_pos (by simp; left; omega), if_pos rfl]
      · have : ¬ (i : Int) = s := by omega
        rw [if_neg h]
        by_cases h2 : (i : Int) ∈ ss
        · simp [h2]
        · simp [h2, this]
    rw [e, sumN_upd (by omega), ih, List.map_cons, List.sum_cons]
    have : ((s.toNat : Nat) : Int) = s := by omega
    simp only [this, if_neg hn'.1]; omega

theorem perm_erase {α : Type} : ∀ {l : List α} {i : Nat} (h : i < l.length), (l[i] :: l.eraseIdx i).Perm l
  | x :: l, 0, _ => List.Perm.refl _
  | x :: l, i + 1, h => by
    have ih := perm_erase (l := l) (i := i) (by simpa using h)
    simp only [List.getElem_cons_succ, List.eraseIdx_cons_succ]
    exact (List.Perm.swap x _ _).trans (ih.cons x)

theorem perm_sum {α : Type} (f : α → Int) {l l' : List α} (h : l.Perm l') : (l.map f).sum = (l'.map f).sum := by
  induction h with
  | nil => rfl
  | cons x _ ih => simp only [List.map_cons, List.sum_cons, ih]
  | swap x y l => simp only [List.map_cons, List.sum_cons]; omega
  | trans _ _ ih1 ih2 => exact ih1.trans ih2

/-! ### No lengths cost less -/
/-- Weights are joined, the two least at a time; the sum of all that is joined. -/
inductive Merge : List Int → Int → Prop where
  | one {ws : List Int} (h : ws.length ≤ 1) : Merge ws 0
  | step {ws R : List Int} {a b m : Int} (hp : ws.Perm (a :: b :: R)) (h1 : a ≤ b) (h2 : ∀ r ∈ R, b ≤ r) (hm : Merge ((a + b) :: R) m) : Merge ws (a + b + m)

def pw (l : Nat) : Int := 2 ^ (8 - l)
def cost (P : List (Int × Nat)) : Int := (P.map fun p => p.1 * (p.2 : Int)).sum
def kr (P : List (Int × Nat)) : Int := (P.map fun p => pw p.2).sum
theorem cost_cons (p : Int × Nat) (P : List (Int × Nat)) : cost (p :: P) = p.1 * p.2 + cost P := by simp [cost]
theorem kr_cons (p : Int × Nat) (P : List (Int × Nat)) : kr (p :: P) = pw p.2 + kr P := by simp [kr]
theorem pw_pos (l : Nat) : 0 < pw l := Int.pow_pos (by decide)
theorem kr_nonneg : ∀ P : List (Int × Nat), 0 ≤ kr P
  | [] => by simp [kr]
  | p :: P => by rw [kr_cons]; have := kr_nonneg P; have := pw_pos p.2; omega

/-- The lightest gets the longest of the lengths. -/
theorem exchange {a : Int} {N : Nat} : ∀ {Q : List (Int × Nat)} {l : Nat}, (∀ q ∈ Q, a ≤ q.1) → l ≤ N → (∀ q ∈ Q, q.2 ≤ N) →
    ∃ (l' : Nat) (Q' : List (Int × Nat)), Q'.map Prod.fst = Q.map Prod.fst ∧ kr ((a, l') :: Q') = kr ((a, l) :: Q) ∧ cost ((a, l') :: Q') ≤ cost ((a, l) :: Q) ∧ (∀ q ∈ Q', q.2 ≤ l') ∧ l' ≤ N
  | [], l, _, hl, _ => ⟨l, [], rfl, rfl, Int.le_refl _, by simp, hl⟩
  | q :: Q, l, ha, hl, hN => by
    obtain ⟨l1, Q1, h1, h2, h3, h4, h5⟩ := exchange (Q := Q) (l := l) (fun x hx => ha x (by simp [hx])) hl fun x hx => hN x (by simp [hx])
    have hq := ha q (by simp)
    simp only [kr_cons, cost_cons] at *
    by_cases h : q.2 ≤ l1
    · refine ⟨l1, q :: Q1, by simp [h1], by simp only [kr_cons]; omega, by simp only [cost_cons]; omega, fun x hx => ?_, h5⟩
      rcases List.mem_cons.1 hx with rfl | hx
      · exact h
      · exact h4 x hx
    · refine ⟨q.2, (q.1, l1) :: Q1, by simp [h1], by simp only [kr_cons]; omega, ?_, fun x hx => ?_, hN q (by simp)⟩
      · simp only [cost_cons]
        obtain ⟨d, hd⟩ : ∃ d : Nat, q.2 = l1 + d := ⟨q.2 - l1, by omega⟩
        have e1 : a * ((q.2 : Nat) : Int) = a * l1 + a * d := by rw [hd, Int.natCast_add, Int.mul_add]
        have e2 : q.1 * ((q.2 : Nat) : Int) = q.1 * l1 + q.1 * d := by rw [hd, Int.natCast_add, Int.mul_add]
        have e3 : a * (d : Int) ≤ q.1 * d := Int.mul_le_mul_of_nonneg_right hq (by omega)
        omega
      · rcases List.mem_cons.1 hx with rfl | hx
        · dsimp only; omega
        · have := h4 x hx; omega

theorem map_perm_cons {α β : Type} (f : α → β) {x : β} {R : List β} : ∀ {P : List α}, (P.map f).Perm (x :: R) → ∃ q Q, P.Perm (q :: Q) ∧ f q = x ∧ (Q.map f).Perm R := by
  intro P h
  have hx : x ∈ P.map f := h.mem_iff.2 (by simp)
  obtain ⟨q, hq, rfl⟩ := List.mem_map.1 hx
  obtain ⟨s, t, rfl⟩ := List.append_of_mem hq
  refine ⟨q, s ++ t, List.perm_middle, rfl, ?_⟩
  have h2 : ((s ++ q :: t).map f).Perm (f q :: (s ++ t).map f) := List.perm_middle.map f
  exact (List.perm_cons _).1 (h2.symm.trans h)

theorem kr_dvd {u : Nat} (hu : u ≤ 8) : ∀ {Q : List (Int × Nat)}, (∀ q ∈ Q, q.2 ≤ u) → ∃ k : Int, kr Q = pw u * k
  | [], _ => ⟨0, by simp [kr]⟩
  | q :: Q, h => by
    obtain ⟨k, hk⟩ := kr_dvd hu (Q := Q) fun x hx => h x (by simp [hx])
    have hq := h q (by simp)
    refine ⟨2 ^ (u - q.2) + k, ?_⟩
    rw [kr_cons, hk, Int.mul_add]
    congr 1
    unfold pw
    rw [← Int.pow_add]
    congr 1; omega

theorem merge_le {ws : List Int} {m : Int} (hm : Merge ws m) : (∀ w ∈ ws, 0 ≤ w) → ∀ P : List (Int × Nat), (P.map Prod.fst).Perm ws → (∀ p ∈ P, p.2 ≤ 8) → kr P ≤ 256 → m ≤ cost P := by
  induction hm with
  | one h =>
    intro h0 P hP _ _
    have : ∀ P : List (Int × Nat), (∀ p ∈ P, 0 ≤ p.1) → 0 ≤ cost P := by
      intro P
      induction P with
      | nil => intro _; simp [cost]
      | cons p P ih =>
        intro hp
        rw [cost_cons]
        have h1 := ih fun q hq => hp q (by simp [hq])
        have h2 : 0 ≤ p.1 * (p.2 : Int) := Int.mul_nonneg (hp p (by simp)) (by omega)
        omega
    exact this P fun p hp => h0 _ (hP.mem_iff.1 (List.mem_map.2 ⟨p, hp, rfl⟩))
  | @step ws R a b m hp h1 h2 hmm ih =>
    intro h0 P hP hl hk
    obtain ⟨⟨a', la⟩, P1, p1, rfl, hP1⟩ := map_perm_cons Prod.fst (hP.trans hp)
    obtain ⟨⟨b', lb⟩, Q, p2, rfl, hQ⟩ := map_perm_cons Prod.fst hP1
    dsimp only at *
    have pp : P.Perm ((a', la) :: (b', lb) :: Q) := p1.trans (p2.cons _)
    have ec : cost P = cost ((a', la) :: (b', lb) :: Q) := perm_sum _ pp
    have ek : kr P = kr ((a', la) :: (b', lb) :: Q) := perm_sum _ pp
    have hl' : ∀ q ∈ (a', la) :: (b', lb) :: Q, q.2 ≤ 8 := fun q hq => hl q (pp.mem_iff.2 hq)
    have hQb : ∀ q ∈ Q, b' ≤ q.1 := fun q hq => h2 _ (hQ.mem_iff.1 (List.mem_map.2 ⟨q, hq, rfl⟩))
    obtain ⟨la1, Q1, x1, x2, x3, x4, x5⟩ := exchange (a := a') (N := 8) (Q := (b', lb) :: Q) (l := la) (fun q hq => by
      rcases List.mem_cons.1 hq with rfl | hq
      · exact h1
      · have := hQb q hq; omega) (hl' (a', la) (by simp)) fun q hq => hl' q (by simp at hq; simp [hq])
    obtain ⟨⟨b1, lb1⟩, Q2, rfl⟩ : ∃ y Y, Q1 = y :: Y := by
      cases Q1 with
      | nil => simp at x1
      | cons y Y => exact ⟨y, Y, rfl⟩
    simp only [List.map_cons, List.cons.injEq] at x1
    obtain ⟨rfl, x1⟩ := x1
    have hQ2b : ∀ q ∈ Q2, b1 ≤ q.1 := fun q hq => by
      have : q.1 ∈ Q.map Prod.fst := by rw [← x1]; exact List.mem_map.2 ⟨q, hq, rfl⟩
      obtain ⟨r, hr, e⟩ := List.mem_map.1 this
      rw [← e]; exact hQb r hr
    obtain ⟨lb2, Q3, y1, y2, y3, y4, y5⟩ := exchange (a := b1) (N := la1) (Q := Q2) (l := lb1) hQ2b (x4 (b1, lb1) (by simp)) fun q hq => x4 q (by simp [hq])
    simp only [kr_cons, cost_cons] at x2 x3 y2 y3 ec ek
    -- the two least have the same length from here on
    obtain ⟨k, hk3⟩ := kr_dvd (u := lb2) (by omega) y4
    have hu := pw_pos lb2
    have h256 : (256 : Int) = pw lb2 * 2 ^ lb2 := by
      unfold pw; rw [← Int.pow_add, show 8 - lb2 + lb2 = 8 by omega]; rfl
    have hs : pw lb2 * (1 + k) < pw lb2 * 2 ^ lb2 := by
      rw [← h256, Int.mul_add, ← hk3]
      have := pw_pos la1
      omega
    have hk1 : 1 + k < 2 ^ lb2 := Int.lt_of_mul_lt_mul_left hs (by omega)
    have hk2 : pw lb2 * (2 + k) ≤ pw lb2 * 2 ^ lb2 := Int.mul_le_mul_of_nonneg_left (by omega) (by omega)
    rw [← h256, Int.mul_add, ← hk3] at hk2
    have hlb : 1 ≤ lb2 := by
      refine Classical.byContradiction fun hn => ?_
      obtain rfl : lb2 = 0 := by omega
      have := kr_nonneg Q3
      simp [pw] at hk2
      omega
    have hp1 : pw (lb2 - 1) = pw lb2 * 2 := by
      unfold pw
      rw [show 8 - (lb2 - 1) = (8 - lb2) + 1 by omega, Int.pow_succ]
    have hfin := ih (fun w hw => by
      rcases List.mem_cons.1 hw with rfl | hw
      · have e1 := h0 a' (hp.mem_iff.2 (by simp))
        have e2 := h0 b1 (hp.mem_iff.2 (by simp))
        omega
      · exact h0 w (hp.mem_iff.2 (by simp [hw]))) ((a' + b1, lb2 - 1) :: Q3) (by
        simp only [List.map_cons]
        rw [y1, x1]
        exact hQ.cons _) (fun q hq => by
        rcases List.mem_cons.1 hq with rfl | hq
        · dsimp only; omega
        · have := y4 q hq; omega) (by rw [kr_cons]; dsimp only; omega)
    rw [cost_cons] at hfin
    dsimp only at hfin
    have e4 : (a' + b1) * ((lb2 - 1 : Nat) : Int) = a' * lb2 + b1 * lb2 - (a' + b1) := by
      have : ((lb2 - 1 : Nat) : Int) = lb2 - 1 := by omega
      rw [this, Int.mul_sub, Int.add_mul]; omega
    have e5 : a' * (lb2 : Int) ≤ a' * (la1 : Int) := Int.mul_le_mul_of_nonneg_left (by omega) (h0 a' (hp.mem_iff.2 (by simp)))
    omega

/-! ### The groups -/
structure Grp where
  w : Int
  ss : List Int
deriving Inhabited

def grpAt (F : List Grp) (i : Nat) : Grp := F.getD i ⟨0, []⟩
/-- The first of the lightest groups. -/
def scanF (F : List Grp) : Nat → Nat
  | 0 => 0
  | k + 1 => if (grpAt F k).w < (grpAt F (scanF F k)).w then k else scanF F k
def leastIx (F : List Grp) : Nat := scanF F F.length

theorem scanF_spec (F : List Grp) : ∀ k, 1 ≤ k → scanF F k < k ∧ (∀ j, j < k → (grpAt F (scanF F k)).w ≤ (grpAt F j).w) ∧ ∀ j, j < scanF F k → (grpAt F (scanF F k)).w < (grpAt F j).w
  | 0, h => by omega
  | 1, _ => by
    have : scanF F 1 = 0 := by simp [scanF]
    rw [this]
    exact ⟨by omega, fun j hj => by rw [show j = 0 by omega]; exact Int.le_refl _, fun j hj => by omega⟩
  | k + 2, _ => by
    obtain ⟨h1, h2, h3⟩ := scanF_spec F (k + 1) (by omega)
    rw [show scanF F (k + 2) = if (grpAt F (k + 1)).w < (grpAt F (scanF F (k + 1))).w then k + 1 else scanF F (k + 1) from rfl]
    split
    · rename_i h
      refine ⟨by omega, fun j hj => ?_, fun j hj => ?_⟩
      · by_cases e : j = k + 1
        · rw [e]; exact Int.le_refl _
        · have := h2 j (by omega); omega
      · have := h2 j (by omega); omega
    · rename_i h
      refine ⟨by omega, fun j hj => ?_, h3⟩
      by_cases e : j = k + 1
      · rw [e]; omega
      · exact h2 j (by omega)

theorem least_lt {F : List Grp} (h : 1 ≤ F.length) : leastIx F < F.length := (scanF_spec F _ h).1
theorem grpAt_eq {F : List Grp} {i : Nat} (h : i < F.length) : grpAt F i = F[i] := by simp [grpAt, List.getD, h]
theorem least_le_all {F : List Grp} (h : 1 ≤ F.length) : ∀ g ∈ F, (grpAt F (leastIx F)).w ≤ g.w := fun g hg => by
  obtain ⟨j, hj, rfl⟩ := List.getElem_of_mem hg
  rw [← grpAt_eq hj]
  exact (scanF_spec F _ h).2.1 j hj

/-- The lengths of some symbols are one more. -/
def bump (ls : List Int) (ss : List Int) : List Int := ss.foldl (fun l s => l.set s.toNat (gi l s + 1)) ls
theorem bump_length (ls : List Int) : ∀ ss : List Int, (bump ls ss).length = ls.length := by
  intro ss
  induction ss generalizing ls with
  | nil => rfl
  | cons s ss ih => simp only [bump, List.foldl_cons] at ih ⊢; rw [ih]; simp
theorem bump_gi : ∀ {ss : List Int} {ls : List Int}, ss.Nodup → (∀ s ∈ ss, 0 ≤ s ∧ s < ls.length) → ∀ i : Nat, gi (bump ls ss) i = gi ls i + if (i : Int) ∈ ss then 1 else 0
  | [], ls, _, _, i => by simp [bump]
  | s :: ss, ls, hn, hr, i => by
    have hn' := List.nodup_cons.1 hn
    have h0 := hr s (by simp)
    have ih := bump_gi (ss := ss) (ls := ls.set s.toNat (gi ls s + 1)) hn'.2 (fun t ht => by rw [List.length_set]; exact hr t (by simp [ht])) i
    have e : bump ls (s :: ss) = bump (ls.set s.toNat (gi ls s + 1)) ss := rfl
    rw [e, ih]
    by_cases h : s.toNat = i
    · subst h
      have e2 : ((s.toNat : Nat) : Int) = s := by omega
      rw [gi_set_same (by omega), e2, if_neg hn'.1, if_pos (by simp)]; omega
    · rw [gi_set_other h]
      have : ¬ (i : Int) = s := by omega
      simp [this]

/-- Groups are joined until one is left. -/
def huffF : Nat → List Grp → List Int → List Int
  | 0, _, ls => ls
  | k + 1, F, ls =>
    let a := grpAt F (leastIx F)
    let F1 := F.eraseIdx (leastIx F)
    let b := grpAt F1 (leastIx F1)
    huffF k (F1.eraseIdx (leastIx F1) ++ [⟨a.w + b.w, a.ss ++ b.ss⟩]) (bump ls (a.ss ++ b.ss))

/-- What holds of the groups and the lengths so far. -/
structure HInv (c : Nat → Int) (F : List Grp) (ls : List Int) : Prop where
  len : ls.length = 8
  nodup : ∀ g ∈ F, g.ss.Nodup
  apart : F.Pairwise fun g h => ∀ s ∈ g.ss, s ∉ h.ss
  range : ∀ g ∈ F, ∀ s ∈ g.ss, 0 ≤ s ∧ s < 8
  none : ∀ i : Nat, i < 8 → (∀ g ∈ F, (i : Int) ∉ g.ss) → gi ls i = 0
  few : (F.map fun g => (g.ss.length : Int)).sum ≤ 8
  weight : ∀ g ∈ F, g.w = (g.ss.map fun s => c s.toNat).sum
  full : ∀ g ∈ F, (g.ss.map fun s => pw (gi ls s).toNat).sum = 256
  short : ∀ g ∈ F, ∀ s ∈ g.ss, 0 ≤ gi ls s ∧ gi ls s + 1 ≤ g.ss.length
  long : ∀ g ∈ F, ∀ s ∈ g.ss, 2 ≤ g.ss.length → 1 ≤ gi ls s
  pos : ∀ g ∈ F, 0 < g.w

theorem HInv.perm {c : Nat → Int} {F F' : List Grp} {ls : List Int} (H : HInv c F ls) (h : F.Perm F') : HInv c F' ls :=
  ⟨H.len, fun g hg => H.nodup g (h.mem_iff.2 hg), (h.pairwise_iff (fun hxy s hs hx => hxy s hx hs)).1 H.apart, fun g hg => H.range g (h.mem_iff.2 hg),
    fun i hi hn => H.none i hi fun g hg => hn g (h.mem_iff.1 hg), by rw [← perm_sum _ h]; exact H.few, fun g hg => H.weight g (h.mem_iff.2 hg), fun g hg => H.full g (h.mem_iff.2 hg),
    fun g hg => H.short g (h.mem_iff.2 hg), fun g hg => H.long g (h.mem_iff.2 hg), fun g hg => H.pos g (h.mem_iff.2 hg)⟩

theorem sum_nonneg_len (R : List Grp) : 0 ≤ (R.map fun g => (g.ss.length : Int)).sum := by
  induction R with
  | nil => simp
  | cons g R ih => simp only [List.map_cons, List.sum_cons]; omega

theorem sum_map_congr {α : Type} {f g : α → Int} : ∀ {l : List α}, (∀ x ∈ l, f x = g x) → (l.map f).sum = (l.map g).sum
  | [], _ => rfl
  | x :: l, h => by simp only [List.map_cons, List.sum_cons]; rw [h x (by simp), sum_map_congr fun y hy => h y (by simp [hy])]

theorem half_sum {ls ls' : List Int} : ∀ {ss : List Int}, (∀ s ∈ ss, 0 ≤ gi ls s ∧ gi ls s + 1 ≤ 8 ∧ gi ls' s = gi ls s + 1) → (ss.map fun s => pw (gi ls s).toNat).sum = 2 * (ss.map fun s => pw (gi ls' s).toNat).sum
  | [], _ => rfl
  | s :: ss, h => by
    have ih := half_sum (ss := ss) fun t ht => h t (by simp [ht])
    obtain ⟨h1, h2, h3⟩ := h s (by simp)
    simp only [List.map_cons, List.sum_cons, ih]
    have : pw (gi ls s).toNat = 2 * pw (gi ls' s).toNat := by
      unfold pw
      rw [h3, show (8 - (gi ls s).toNat) = (8 - (gi ls s + 1).toNat) + 1 by omega, Int.pow_succ]; omega
    omega

theorem HInv.join {c : Nat → Int} {a b : Grp} {R : List Grp} {ls : List Int} (H : HInv c (a :: b :: R) ls) : HInv c (⟨a.w + b.w, a.ss ++ b.ss⟩ :: R) (bump ls (a.ss ++ b.ss)) := by
  have hap := List.pairwise_cons.1 H.apart
  have hap2 := List.pairwise_cons.1 hap.2
  have na := H.nodup a (by simp)
  have nb := H.nodup b (by simp)
  have hab : ∀ s ∈ a.ss, s ∉ b.ss := hap.1 b (by simp)
  have nd : (a.ss ++ b.ss).Nodup := List.nodup_append.2 ⟨na, nb, fun x hx y hy e => hab x hx (e ▸ hy)⟩
  have rg : ∀ s ∈ a.ss ++ b.ss, 0 ≤ s ∧ s < 8 := fun s hs => by
    rcases List.mem_append.1 hs with h | h
    · exact H.range a (by simp) s h
    · exact H.range b (by simp) s h
  have G := bump_gi (ls := ls) nd fun s hs => by rw [H.len]; exact rg s hs
  have GI : ∀ s : Int, 0 ≤ s → gi (bump ls (a.ss ++ b.ss)) s = gi ls s + if s ∈ a.ss ++ b.ss then 1 else 0 := fun s hs => by
    obtain ⟨k, rfl⟩ := Int.eq_ofNat_of_zero_le hs
    exact G k
  have hfew := H.few
  simp only [List.map_cons, List.sum_cons] at hfew
  have hR := sum_nonneg_len R
  have hout : ∀ g ∈ R, ∀ s ∈ g.ss, s ∉ a.ss ++ b.ss := fun g hg s hs hx => by
    rcases List.mem_append.1 hx with h | h
    · exact hap.1 g (by simp [hg]) s h hs
    · exact hap2.1 g hg s h hs
  have keep : ∀ g ∈ R, ∀ s ∈ g.ss, gi (bump ls (a.ss ++ b.ss)) s = gi ls s := fun g hg s hs => by
    rw [GI s (H.range g (by simp [hg]) s hs).1, if_neg (hout g hg s hs)]; omega
  have up : ∀ s ∈ a.ss ++ b.ss, gi (bump ls (a.ss ++ b.ss)) s = gi ls s + 1 := fun s hs => by
    rw [GI s (rg s hs).1, if_pos hs]
  have sh : ∀ s ∈ a.ss ++ b.ss, 0 ≤ gi ls s ∧ gi ls s + 1 ≤ max a.ss.length b.ss.length ∧ 1 ≤ a.ss.length ∧ 1 ≤ b.ss.length := fun s hs => by
    have la : 1 ≤ a.ss.length := by
      have := H.full a (by simp)
      cases h : a.ss with
      | nil => rw [h] at this; simp at this
      | cons x l => simp
    have lb : 1 ≤ b.ss.length := by
      have := H.full b (by simp)
      cases h : b.ss with
      | nil => rw [h] at this; simp at this
      | cons x l => simp
    rcases List.mem_append.1 hs with h | h
    · have := H.short a (by simp) s h; omega
    · have := H.short b (by simp) s h; omega
  refine ⟨by rw [bump_length]; exact H.len, ?_, ?_, ?_, ?_, ?_, ?_, ?_, ?_, ?_, ?_⟩
  · intro g hg
    rcases List.mem_cons.1 hg with rfl | hg
    · exact nd
    · exact H.nodup g (by simp [hg])
  · refine List.pairwise_cons.2 ⟨fun g hg s hs hx => hout g hg s hx hs, hap2.2⟩
  · intro g hg
    rcases List.mem_cons.1 hg with rfl | hg
    · exact rg
    · exact H.range g (by simp [hg])
  · intro i hi hn
    have h1 := hn ⟨a.w + b.w, a.ss ++ b.ss⟩ (by simp)
    rw [G i, if_neg h1]
    have := H.none i hi fun g hg hx => by
      rcases List.mem_cons.1 hg with rfl | hg
      · exact h1 (List.mem_append.2 (.inl hx))
      · rcases List.mem_cons.1 hg with rfl | hg
        · exact h1 (List.mem_append.2 (.inr hx))
        · exact hn g (by simp [hg]) hx
    omega
  · simp only [List.map_cons, List.sum_cons, List.length_append]; omega
  · intro g hg
    rcases List.mem_cons.1 hg with rfl | hg
    · dsimp only
      rw [List.map_append, List.sum_append_int, H.weight a (by simp), H.weight b (by simp)]
    · exact H.weight g (by simp [hg])
  · intro g hg
    rcases List.mem_cons.1 hg with rfl | hg
    · dsimp only
      have h1 := half_sum (ls := ls) (ls' := bump ls (a.ss ++ b.ss)) (ss := a.ss ++ b.ss) fun s hs => by
        have := sh s hs
        exact ⟨this.1, by omega, up s hs⟩
      have h2 := H.full a (by simp)
      have h3 := H.full b (by simp)
      rw [List.map_append, List.sum_append_int] at h1
      omega
    · rw [← H.full g (by simp [hg])]
      exact sum_map_congr fun s hs => by rw [keep g hg s hs]
  · intro g hg s hs
    rcases List.mem_cons.1 hg with rfl | hg
    · dsimp only at hs ⊢
      have := sh s hs
      rw [up s hs, List.length_append]; omega
    · rw [keep g hg s hs]; exact H.short g (by simp [hg]) s hs
  · intro g hg s hs h2
    rcases List.mem_cons.1 hg with rfl | hg
    · dsimp only at hs
      have := sh s hs
      rw [up s hs]; omega
    · rw [keep g hg s hs]; exact H.long g (by simp [hg]) s hs h2
  · intro g hg
    rcases List.mem_cons.1 hg with rfl | hg
    · have h1 := H.pos a (by simp)
      have h2 := H.pos b (by simp)
      dsimp only; omega
    · exact H.pos g (by simp [hg])

theorem bump_cost {c : Nat → Int} {ls ss : List Int} (hl : ls.length = 8) (hn : ss.Nodup) (hr : ∀ s ∈ ss, 0 ≤ s ∧ s < 8) :
    sumN (fun i => c i * gi (bump ls ss) i) 8 = sumN (fun i => c i * gi ls i) 8 + (ss.map fun s => c s.toNat).sum := by
  rw [← sumN_mem c (n := 8) hn (by simpa using hr), ← sumN_add]
  refine sumN_ext fun i hi => ?_
  rw [bump_gi hn (by rw [hl]; simpa using hr) i]
  by_cases h : (i : Int) ∈ ss
  · rw [if_pos h, if_pos h, Int.mul_add]; omega
  · rw [if_neg h, if_neg h, Int.add_zero, Int.add_zero]

/-- What the whole run yields. -/
theorem huff_run {c : Nat → Int} : ∀ {k : Nat} {F : List Grp} {ls : List Int}, F.length = k + 1 → HInv c F ls →
    ∃ (g : Grp) (m : Int), HInv c [g] (huffF k F ls) ∧ Merge (F.map (·.w)) m ∧ sumN (fun i => c i * gi (huffF k F ls) i) 8 = sumN (fun i => c i * gi ls i) 8 + m ∧ (∀ s, s ∈ g.ss ↔ ∃ h ∈ F, s ∈ h.ss) ∧ (1 ≤ k → 2 ≤ g.ss.length)
  | 0, F, ls, hl, H => by
    obtain ⟨g, rfl⟩ : ∃ g, F = [g] := List.length_eq_one_iff.1 hl
    exact ⟨g, 0, H, .one (by simp), by simp [huffF], fun s => by simp, fun h => by omega⟩
  | k + 1, F, ls, hl, H => by
    have l1 : 1 ≤ F.length := by omega
    have i1 := least_lt l1
    have e1 := grpAt_eq i1
    have p1 : (grpAt F (leastIx F) :: F.eraseIdx (leastIx F)).Perm F := by rw [e1]; exact perm_erase i1
    have hl2 : (F.eraseIdx (leastIx F)).length = k + 1 := by rw [List.length_eraseIdx_of_lt i1]; omega
    have l2 : 1 ≤ (F.eraseIdx (leastIx F)).length := by omega
    have i2 := least_lt l2
    have p2 : (grpAt (F.eraseIdx (leastIx F)) (leastIx (F.eraseIdx (leastIx F))) :: (F.eraseIdx (leastIx F)).eraseIdx (leastIx (F.eraseIdx (leastIx F)))).Perm (F.eraseIdx (leastIx F)) := by
      rw [grpAt_eq i2]; exact perm_erase i2
    have m1 := least_le_all l1
    have m2 := least_le_all l2
    have hl3 : ((F.eraseIdx (leastIx F)).eraseIdx (leastIx (F.eraseIdx (leastIx F)))).length = k := by rw [List.length_eraseIdx_of_lt i2]; omega
    have HH : huffF (k + 1) F ls = huffF k ((F.eraseIdx (leastIx F)).eraseIdx (leastIx (F.eraseIdx (leastIx F))) ++ [⟨(grpAt F (leastIx F)).w + (grpAt (F.eraseIdx (leastIx F)) (leastIx (F.eraseIdx (leastIx F)))).w, (grpAt F (leastIx F)).ss ++ (grpAt (F.eraseIdx (leastIx F)) (leastIx (F.eraseIdx (leastIx F)))).ss⟩]) (bump ls ((grpAt F (leastIx F)).ss ++ (grpAt (F.eraseIdx (leastIx F)) (leastIx (F.eraseIdx (leastIx F)))).ss)) := rfl
    rw [HH]
    generalize grpAt F (leastIx F) = a at *
    generalize F.eraseIdx (leastIx F) = F1 at *
    generalize grpAt F1 (leastIx F1) = b at *
    generalize F1.eraseIdx (leastIx F1) = R at *
    have pp : (a :: b :: R).Perm F := (p2.cons a).trans p1
    have H2 := (H.perm pp.symm)
    have hpr : (R ++ [(⟨a.w + b.w, a.ss ++ b.ss⟩ : Grp)]).Perm ((⟨a.w + b.w, a.ss ++ b.ss⟩ : Grp) :: R) := List.perm_append_singleton _ _
    have H3 := H2.join.perm hpr.symm
    obtain ⟨g, m, g1, g2, g3, g4, g5⟩ := huff_run (k := k) (F := R ++ [(⟨a.w + b.w, a.ss ++ b.ss⟩ : Grp)]) (by simp [hl3]) H3
    have nd := H2.join.nodup ⟨a.w + b.w, a.ss ++ b.ss⟩ (by simp)
    have rg := H2.join.range ⟨a.w + b.w, a.ss ++ b.ss⟩ (by simp)
    have hab : a.w ≤ b.w := m1 b (p1.mem_iff.1 (List.mem_cons_of_mem _ (p2.mem_iff.1 (by simp))))
    have wt := H2.join.weight ⟨a.w + b.w, a.ss ++ b.ss⟩ (by simp)
    dsimp only at nd rg wt
    refine ⟨g, a.w + b.w + m, g1, ?_, ?_, ?_, fun _ => ?_⟩
    · refine .step (R := R.map (·.w)) (by simpa using (pp.symm.map (·.w))) hab (fun r hr => ?_) ?_
      · obtain ⟨h, hh, rfl⟩ := List.mem_map.1 hr
        exact m2 h (p2.mem_iff.1 (by simp [hh]))
      · have : (((R ++ [(⟨a.w + b.w, a.ss ++ b.ss⟩ : Grp)]).map (·.w) : List Int)).Perm ((a.w + b.w) :: R.map (·.w)) := by simpa using hpr.map (·.w)
        cases g2 with
        | one h =>
          refine .one ?_
          rw [← this.length_eq]; exact h
        | step hp h1 h2 hm => exact .step (this.symm.trans hp) h1 h2 hm
    · rw [g3, bump_cost H.len nd rg, ← wt]; omega
    · intro s
      rw [g4]
      constructor
      · rintro ⟨h, hh, hs⟩
        rcases List.mem_append.1 hh with hh | hh
        · exact ⟨h, pp.mem_iff.1 (by simp [hh]), hs⟩
        · simp only [List.mem_singleton] at hh
          subst hh
          rcases List.mem_append.1 hs with hs | hs
          · exact ⟨a, pp.mem_iff.1 (by simp), hs⟩
          · exact ⟨b, pp.mem_iff.1 (by simp), hs⟩
      · rintro ⟨h, hh, hs⟩
        rcases List.mem_cons.1 (pp.mem_iff.2 hh) with rfl | hh
        · exact ⟨_, List.mem_append.2 (.inr (by simp; rfl)), List.mem_append.2 (.inl hs)⟩
        · rcases List.mem_cons.1 hh with rfl | hh
          · exact ⟨_, List.mem_append.2 (.inr (by simp; rfl)), List.mem_append.2 (.inr hs)⟩
          · exact ⟨h, List.mem_append.2 (.inl hh), hs⟩
    · by_cases hk : 1 ≤ k
      · exact g5 hk
      · obtain rfl : k = 0 := by omega
        have hR : R = [] := List.eq_nil_of_length_eq_zero hl3
        subst hR
        have ga : 1 ≤ a.ss.length := by
          have := H2.full a (by simp)
          cases h : a.ss with
          | nil => rw [h] at this; simp at this
          | cons x l => simp
        have gb : 1 ≤ b.ss.length := by
          have := H2.full b (by simp)
          cases h : b.ss with
          | nil => rw [h] at this; simp at this
          | cons x l => simp
        -- the last group has the symbols of both
        have hall : ∀ s, s ∈ a.ss ++ b.ss → s ∈ g.ss := fun s hs => (g4 s).2 ⟨_, by simp; rfl, hs⟩
        obtain ⟨x, la, ea⟩ := List.exists_cons_of_length_pos (show 0 < a.ss.length by omega)
        obtain ⟨y, lb, eb⟩ := List.exists_cons_of_length_pos (show 0 < b.ss.length by omega)
        have hx : x ∈ g.ss := hall x (by rw [ea]; simp)
        have hy : y ∈ g.ss := hall y (by rw [eb]; simp)
        have hne : x ≠ y := fun e => by
          have := (List.pairwise_cons.1 H2.apart).1 b (by simp) x (by rw [ea]; simp)
          exact this (by rw [e, eb]; simp)
        refine Classical.byContradiction fun hn => ?_
        cases hg : g.ss with
        | nil => rw [hg] at hx; cases hx
        | cons z l =>
          rw [hg] at hn hx hy
          simp at hn
          subst hn
          simp at hx hy
          exact hne (hx.trans hy.symm)
end Go.Proofs.Ytjiildnfegechaa
