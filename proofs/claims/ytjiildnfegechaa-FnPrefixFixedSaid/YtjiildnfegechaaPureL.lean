/-
  Plain theory: the reference's way to best codes (weights with zeros, groups by numbers) is the program's way.
-/
import Derived.Test.YtjiildnfegechaaPureE
namespace Go.Proofs.Ytjiildnfegechaa
set_option linter.unusedVariables false
set_option linter.unusedSimpArgs false
set_option linter.unnecessarySimpa false

/-- The first of the least weights that are left. -/
def scanL (ws : List Int) : Nat → Int
  | 0 => -1
  | k + 1 => if 0 < gi ws k ∧ (scanL ws k < 0 ∨ gi ws k < gi ws (scanL ws k)) then (k : Int) else scanL ws k
def leastW (ws : List Int) : Int := scanL ws ws.length

theorem scanL_spec (ws : List Int) : ∀ k : Nat, (scanL ws k = -1 ∧ ∀ j : Nat, j < k → ¬ 0 < gi ws j) ∨
    ∃ s : Nat, scanL ws k = s ∧ s < k ∧ 0 < gi ws s ∧ (∀ j : Nat, j < k → 0 < gi ws j → gi ws s ≤ gi ws j) ∧ ∀ j : Nat, j < s → 0 < gi ws j → gi ws s < gi ws j
  | 0 => .inl ⟨rfl, fun j hj => by omega⟩
  | k + 1 => by
    rw [show scanL ws (k + 1) = if 0 < gi ws k ∧ (scanL ws k < 0 ∨ gi ws k < gi ws (scanL ws k)) then (k : Int) else scanL ws k from rfl]
    rcases scanL_spec ws k with ⟨h1, h2⟩ | ⟨s, h1, h2, h3, h4, h5⟩
    · rw [h1]
      by_cases hk : 0 < gi ws k
      · rw [if_pos ⟨hk, .inl (by omega)⟩]
        refine .inr ⟨k, rfl, by omega, hk, fun j hj hp => ?_, fun j hj hp => absurd hp (h2 j hj)⟩
        by_cases e : j = k
        · rw [e]; exact Int.le_refl _
        · exact absurd hp (h2 j (by omega))
      · rw [if_neg (fun h => hk h.1)]
        refine .inl ⟨rfl, fun j hj => ?_⟩
        by_cases e : j = k
        · rw [e]; exact hk
        · exact h2 j (by omega)
    · rw [h1]
      by_cases hk : 0 < gi ws k ∧ gi ws k < gi ws s
      · rw [if_pos ⟨hk.1, .inr hk.2⟩]
        refine .inr ⟨k, rfl, by omega, hk.1, fun j hj hp => ?_, fun j hj hp => ?_⟩
        · by_cases e : j = k
          · rw [e]; exact Int.le_refl _
          · have := h4 j (by omega) hp; omega
        · have := h4 j hj hp; omega
      · rw [if_neg (fun h => by
          rcases h.2 with h' | h'
          · omega
          · exact hk ⟨h.1, h'⟩)]
        refine .inr ⟨s, rfl, by omega, h3, fun j hj hp => ?_, h5⟩
        by_cases e : j = k
        · subst e
          refine Classical.byContradiction fun hn => hk ⟨hp, by omega⟩
        · exact h4 j (by omega) hp

/-- The groups that are left, with their numbers. -/
structure LRel (ws own : List Int) (Gs : List (Nat × Grp)) : Prop where
  own8 : own.length = 8
  low : ∀ i : Nat, i < 8 → 0 ≤ gi own i ∧ gi own i < ws.length
  mem : ∀ e ∈ Gs, e.1 < ws.length ∧ gi ws e.1 = e.2.w ∧ 0 < e.2.w ∧ ∀ i : Nat, i < 8 → ((i : Int) ∈ e.2.ss ↔ gi own i = e.1)
  asc : Gs.Pairwise fun a b => a.1 < b.1
  all : ∀ j : Nat, j < ws.length → 0 < gi ws j → ∃ e ∈ Gs, e.1 = j

theorem grpAt_map {Gs : List (Nat × Grp)} {j : Nat} (h : j < Gs.length) : grpAt (Gs.map Prod.snd) j = Gs[j].2 := by
  rw [grpAt_eq (by simpa using h)]; simp

theorem LRel.none {ws own : List Int} (R : LRel ws own []) : leastW ws = -1 := by
  rcases scanL_spec ws ws.length with ⟨h1, _⟩ | ⟨s, _, h2, h3, _⟩
  · exact h1
  · obtain ⟨e, he, _⟩ := R.all s h2 h3; cases he

theorem LRel.pick {ws own : List Int} {Gs : List (Nat × Grp)} (R : LRel ws own Gs) (h : 1 ≤ Gs.length) :
    ∃ hi : leastIx (Gs.map Prod.snd) < Gs.length, leastW ws = ((Gs[leastIx (Gs.map Prod.snd)].1 : Nat) : Int) := by
  have hl : (Gs.map Prod.snd).length = Gs.length := by simp
  obtain ⟨f1, f2, f3⟩ := scanF_spec (Gs.map Prod.snd) (Gs.map Prod.snd).length (by omega)
  have hi : leastIx (Gs.map Prod.snd) < Gs.length := by unfold leastIx; omega
  refine ⟨hi, ?_⟩
  have e : scanF (Gs.map Prod.snd) (Gs.map Prod.snd).length = leastIx (Gs.map Prod.snd) := rfl
  rw [e] at f1 f2 f3
  generalize leastIx (Gs.map Prod.snd) = ix at *
  rw [grpAt_map hi] at f2 f3
  obtain ⟨m1, m2, m3, _⟩ := R.mem Gs[ix] (List.getElem_mem hi)
  rcases scanL_spec ws ws.length with ⟨_, h2⟩ | ⟨s, h1, h2, h3, h4, h5⟩
  · exact absurd (by rw [m2]; exact m3) (h2 _ m1)
  · show scanL ws ws.length = _
    rw [h1]
    obtain ⟨e, he, es⟩ := R.all s h2 h3
    obtain ⟨j, hj, rfl⟩ := List.getElem_of_mem he
    obtain ⟨_, n2, _, _⟩ := R.mem Gs[j] he
    have a1 := f2 j (by omega)
    rw [grpAt_map hj] at a1
    have a2 := h4 Gs[ix].1 m1 (by rw [m2]; exact m3)
    rw [es] at n2
    have hasc := List.pairwise_iff_getElem.1 R.asc
    rcases Nat.lt_trichotomy j ix with hlt | heq | hgt
    · have := f3 j hlt
      rw [grpAt_map hj] at this
      omega
    · subst heq; rw [es]
    · have h6 := hasc ix j hi hj hgt
      have := h5 Gs[ix].1 (by omega) (by rw [m2]; exact m3)
      omega

theorem LRel.drop {ws own : List Int} {Gs : List (Nat × Grp)} (R : LRel ws own Gs) {i : Nat} (hi : i < Gs.length) : LRel (ws.set Gs[i].1 0) own (Gs.eraseIdx i) := by
  have hasc := List.pairwise_iff_getElem.1 R.asc
  have hne : ∀ j (hj : j < Gs.length), j ≠ i → Gs[j].1 ≠ Gs[i].1 := fun j hj hji e => by
    rcases Nat.lt_or_gt_of_ne hji with h | h
    · have := hasc j i hj hi h; omega
    · have := hasc i j hi hj h; omega
  obtain ⟨m1, _⟩ := R.mem Gs[i] (List.getElem_mem hi)
  refine ⟨R.own8, fun k hk => by rw [List.length_set]; exact R.low k hk, fun e he => ?_, R.asc.sublist (List.eraseIdx_sublist _ _), fun j hj hp => ?_⟩
  · obtain ⟨j, hj, hji, rfl⟩ := List.mem_eraseIdx_iff_getElem.1 he
    obtain ⟨n1, n2, n3, n4⟩ := R.mem Gs[j] (List.getElem_mem hj)
    exact ⟨by rw [List.length_set]; exact n1, by rw [gi_set_other (Ne.symm (hne j hj hji)), n2], n3, n4⟩
  · rw [List.length_set] at hj
    by_cases e : j = Gs[i].1
    · subst e
      rw [gi_set_same m1] at hp; omega
    · rw [gi_set_other (Ne.symm e)] at hp
      obtain ⟨x, hx, ex⟩ := R.all j hj hp
      obtain ⟨k, hk, rfl⟩ := List.getElem_of_mem hx
      refine ⟨Gs[k], List.mem_eraseIdx_iff_getElem.2 ⟨k, hk, fun h => ?_, rfl⟩, ex⟩
      subst h
      exact e ex.symm

theorem LRel.join {ws own own' : List Int} {Gs : List (Nat × Grp)} {ja jb : Nat} {ga gb : Grp} (R : LRel ws own Gs) (za : gi ws ja = 0) (zb : gi ws jb = 0)
    (ma : ∀ i : Nat, i < 8 → ((i : Int) ∈ ga.ss ↔ gi own i = ja)) (mb : ∀ i : Nat, i < 8 → ((i : Int) ∈ gb.ss ↔ gi own i = jb)) (hp : 0 < ga.w + gb.w)
    (ho8 : own'.length = 8) (ho : ∀ i : Nat, i < 8 → gi own' i = if gi own i = ja ∨ gi own i = jb then (ws.length : Int) else gi own i) :
    LRel (ws ++ [ga.w + gb.w]) own' (Gs ++ [(ws.length, ⟨ga.w + gb.w, ga.ss ++ gb.ss⟩)]) := by
  have gl : ∀ j : Nat, j < ws.length → gi (ws ++ [ga.w + gb.w]) j = gi ws j := fun j hj => by
    unfold gi; simp only [List.getD, Int.toNat_natCast]; rw [List.getElem?_append_left hj]
  have ge : gi (ws ++ [ga.w + gb.w]) (ws.length : Int) = ga.w + gb.w := by unfold gi; simp [List.getD]
  refine ⟨ho8, fun i hi => ?_, fun e he => ?_, ?_, fun j hj hpos => ?_⟩
  · have := R.low i hi
    rw [ho i hi, List.length_append, List.length_singleton]
    split <;> omega
  · rcases List.mem_append.1 he with he | he
    · obtain ⟨n1, n2, n3, n4⟩ := R.mem e he
      refine ⟨by rw [List.length_append]; omega, by rw [gl _ n1, n2], n3, fun i hi => ?_⟩
      rw [n4 i hi, ho i hi]
      have ea : (e.1 : Int) ≠ ja := fun h => by
        have : e.1 = ja := by omega
        rw [this, za] at n2; omega
      have eb : (e.1 : Int) ≠ jb := fun h => by
        have : e.1 = jb := by omega
        rw [this, zb] at n2; omega
      by_cases h : gi own i = ja ∨ gi own i = jb
      · rw [if_pos h]
        constructor
        · intro h'; omega
        · intro h'; omega
      · rw [if_neg h]
    · simp only [List.mem_singleton] at he
      subst he
      refine ⟨by rw [List.length_append, List.length_singleton]; dsimp only; omega, ge, hp, fun i hi => ?_⟩
      dsimp only
      rw [List.mem_append, ma i hi, mb i hi, ho i hi]
      have := R.low i hi
      by_cases h : gi own i = ja ∨ gi own i = jb
      · rw [if_pos h]; simp [h]
      · rw [if_neg h]
        constructor
        · intro h'; exact absurd h' h
        · intro h'; omega
  · refine List.pairwise_append.2 ⟨R.asc, by simp, fun a ha b hb => ?_⟩
    simp only [List.mem_singleton] at hb
    subst hb
    exact (R.mem a ha).1
  · rw [List.length_append, List.length_singleton] at hj
    by_cases e : j = ws.length
    · exact ⟨_, List.mem_append.2 (.inr (List.mem_singleton.2 rfl)), e.symm⟩
    · rw [gl j (by omega)] at hpos
      obtain ⟨x, hx, ex⟩ := R.all j (by omega) hpos
      exact ⟨x, List.mem_append.2 (.inl hx), ex⟩

theorem HInv.step {c : Nat → Int} {F : List Grp} {ls : List Int} (H : HInv c F ls) (h : 2 ≤ F.length) :
    HInv c ((F.eraseIdx (leastIx F)).eraseIdx (leastIx (F.eraseIdx (leastIx F))) ++ [⟨(grpAt F (leastIx F)).w + (grpAt (F.eraseIdx (leastIx F)) (leastIx (F.eraseIdx (leastIx F)))).w, (grpAt F (leastIx F)).ss ++ (grpAt (F.eraseIdx (leastIx F)) (leastIx (F.eraseIdx (leastIx F)))).ss⟩])
      (bump ls ((grpAt F (leastIx F)).ss ++ (grpAt (F.eraseIdx (leastIx F)) (leastIx (F.eraseIdx (leastIx F)))).ss)) := by
  have i1 := least_lt (F := F) (by omega)
  have p1 : (grpAt F (leastIx F) :: F.eraseIdx (leastIx F)).Perm F := by rw [grpAt_eq i1]; exact perm_erase i1
  have hl2 : 1 ≤ (F.eraseIdx (leastIx F)).length := by rw [List.length_eraseIdx_of_lt i1]; omega
  have i2 := least_lt hl2
  have p2 : (grpAt (F.eraseIdx (leastIx F)) (leastIx (F.eraseIdx (leastIx F))) :: (F.eraseIdx (leastIx F)).eraseIdx (leastIx (F.eraseIdx (leastIx F)))).Perm (F.eraseIdx (leastIx F)) := by
    rw [grpAt_eq i2]; exact perm_erase i2
  have pp := (p2.cons (grpAt F (leastIx F))).trans p1
  exact ((H.perm pp.symm).join).perm (List.perm_append_singleton _ _).symm

theorem map_eraseIdx' {α β : Type} (f : α → β) : ∀ (l : List α) (i : Nat), (l.eraseIdx i).map f = (l.map f).eraseIdx i
  | [], i => rfl
  | x :: l, 0 => rfl
  | x :: l, i + 1 => by simp only [List.eraseIdx_cons_succ, List.map_cons, map_eraseIdx' f l i]

/-- One round of the reference. -/
theorem LRel.step {c : Nat → Int} {ws own ls : List Int} {Gs : List (Nat × Grp)} {k : Nat} (R : LRel ws own Gs) (H : HInv c (Gs.map Prod.snd) ls) (hk : Gs.length = k + 2) :
    ∃ (ja jb : Nat), leastW ws = ja ∧ ja < ws.length ∧ 0 < gi ws ja ∧ leastW (ws.set ja 0) = jb ∧ jb < ws.length ∧ 0 < gi (ws.set ja 0) jb ∧
      ∀ own' ls' : List Int, own'.length = 8 → ls'.length = 8 → (∀ i : Nat, i < 8 → gi own' i = if gi own i = ja ∨ gi own i = jb then (ws.length : Int) else gi own i) →
        (∀ i : Nat, i < 8 → gi ls' i = gi ls i + if gi own i = ja ∨ gi own i = jb then 1 else 0) →
        ∃ Gs' : List (Nat × Grp), Gs'.length = k + 1 ∧ LRel (((ws.set ja 0).set jb 0) ++ [gi ws ja + gi (ws.set ja 0) jb]) own' Gs' ∧ HInv c (Gs'.map Prod.snd) ls' ∧ huffF (k + 1) (Gs.map Prod.snd) ls = huffF k (Gs'.map Prod.snd) ls' := by
  obtain ⟨i1, p1⟩ := R.pick (by omega)
  have R1 := R.drop i1
  have hl1 : (Gs.eraseIdx (leastIx (Gs.map Prod.snd))).length = k + 1 := by rw [List.length_eraseIdx_of_lt i1]; omega
  obtain ⟨i2, p2⟩ := R1.pick (by omega)
  have R2 := R1.drop i2
  obtain ⟨a1, a2, a3, a4⟩ := R.mem _ (List.getElem_mem i1)
  obtain ⟨b1, b2, b3, b4⟩ := R1.mem _ (List.getElem_mem i2)
  rw [List.length_set] at b1
  have HS := H.step (by simp; omega)
  have HU : huffF (k + 1) (Gs.map Prod.snd) ls = huffF k (((Gs.map Prod.snd).eraseIdx (leastIx (Gs.map Prod.snd))).eraseIdx (leastIx ((Gs.map Prod.snd).eraseIdx (leastIx (Gs.map Prod.snd)))) ++ [⟨(grpAt (Gs.map Prod.snd) (leastIx (Gs.map Prod.snd))).w + (grpAt ((Gs.map Prod.snd).eraseIdx (leastIx (Gs.map Prod.snd))) (leastIx ((Gs.map Prod.snd).eraseIdx (leastIx (Gs.map Prod.snd))))).w, (grpAt (Gs.map Prod.snd) (leastIx (Gs.map Prod.snd))).ss ++ (grpAt ((Gs.map Prod.snd).eraseIdx (leastIx (Gs.map Prod.snd))) (leastIx ((Gs.map Prod.snd).eraseIdx (leastIx (Gs.map Prod.snd))))).ss⟩]) (bump ls ((grpAt (Gs.map Prod.snd) (leastIx (Gs.map Prod.snd))).ss ++ (grpAt ((Gs.map Prod.snd).eraseIdx (leastIx (Gs.map Prod.snd))) (leastIx ((Gs.map Prod.snd).eraseIdx (leastIx (Gs.map Prod.snd))))).ss)) := rfl
  rw [← map_eraseIdx'] at HS HU
  rw [← map_eraseIdx'] at HS HU
  rw [grpAt_map i1, grpAt_map i2] at HS HU
  have nda := H.nodup _ (List.mem_map.2 ⟨_, List.getElem_mem i1, rfl⟩)
  have rga := H.range _ (List.mem_map.2 ⟨_, List.getElem_mem i1, rfl⟩)
  generalize hx1 : Gs[leastIx (Gs.map Prod.snd)] = x at *
  generalize hG1 : Gs.eraseIdx (leastIx (Gs.map Prod.snd)) = G1 at *
  have mem1 : ∀ y ∈ G1, y ∈ Gs := fun y hy => by rw [← hG1] at hy; exact List.mem_of_mem_eraseIdx hy
  generalize hx2 : G1[leastIx (G1.map Prod.snd)] = y at *
  have hyG : y ∈ G1 := by rw [← hx2]; exact List.getElem_mem i2
  generalize hG2 : G1.eraseIdx (leastIx (G1.map Prod.snd)) = G2 at *
  have hl2 : G2.length = k := by rw [← hG2, List.length_eraseIdx_of_lt i2]; omega
  refine ⟨x.1, y.1, p1, a1, by rw [a2]; exact a3, p2, b1, by rw [b2]; exact b3, fun own' ls' ho8 hl8 ho hL => ?_⟩
  have z1 : gi ((ws.set x.1 0).set y.1 0) x.1 = 0 := by
    by_cases e : y.1 = x.1
    · rw [e]; exact gi_set_same (by rw [List.length_set]; exact a1)
    · rw [gi_set_other e, gi_set_same a1]
  have z2 : gi ((ws.set x.1 0).set y.1 0) y.1 = 0 := gi_set_same (by rw [List.length_set]; exact b1)
  have nds := HS.nodup ⟨x.2.w + y.2.w, x.2.ss ++ y.2.ss⟩ (by simp)
  have rgs := HS.range ⟨x.2.w + y.2.w, x.2.ss ++ y.2.ss⟩ (by simp)
  dsimp only at nds rgs
  have eb : ls' = bump ls (x.2.ss ++ y.2.ss) := by
    refine eq_of_gi (by rw [bump_length, H.len, hl8]) fun i hi => ?_
    rw [hl8] at hi
    rw [hL i hi, bump_gi nds (by rw [H.len]; exact rgs) i]
    have : ((i : Int) ∈ x.2.ss ++ y.2.ss) ↔ (gi own i = x.1 ∨ gi own i = y.1) := by rw [List.mem_append, a4 i hi, b4 i hi]
    simp only [this]
  have R3 := R2.join (own' := own') z1 z2 a4 b4 (by omega) ho8 (by simpa using ho)
  refine ⟨G2 ++ [(((ws.set x.1 0).set y.1 0).length, ⟨x.2.w + y.2.w, x.2.ss ++ y.2.ss⟩)], by simp [hl2], ?_, ?_, ?_⟩
  · rw [a2, b2]; exact R3
  · rw [List.map_append, eb]; exact HS
  · rw [HU, List.map_append, eb]; rfl

/-! ### The start -/
def gsF (cs : List Int) : Nat → List (Nat × Grp)
  | 0 => []
  | k + 1 => gsF cs k ++ (if 0 < gi cs k then [(k, ⟨gi cs k, [(k : Int)]⟩)] else [])
theorem gsF_snd (cs : List Int) : ∀ k, (gsF cs k).map Prod.snd = grpsF cs k
  | 0 => rfl
  | k + 1 => by simp only [gsF, grpsF, List.map_append, gsF_snd cs k]; split <;> rfl
theorem gsF_mem {cs : List Int} {e : Nat × Grp} : ∀ {k : Nat}, e ∈ gsF cs k ↔ ∃ i : Nat, i < k ∧ 0 < gi cs i ∧ e = (i, ⟨gi cs i, [(i : Int)]⟩)
  | 0 => by simp [gsF]
  | k + 1 => by
    simp only [gsF, List.mem_append, gsF_mem (k := k)]
    constructor
    · rintro (⟨i, h1, h2, h3⟩ | h)
      · exact ⟨i, by omega, h2, h3⟩
      · by_cases hc : 0 < gi cs k
        · rw [if_pos hc] at h; exact ⟨k, by omega, hc, by simpa using h⟩
        · rw [if_neg hc] at h; cases h
    · rintro ⟨i, h1, h2, h3⟩
      by_cases e : i = k
      · subst e; right; rw [if_pos h2]; simp [h3]
      · left; exact ⟨i, by omega, h2, h3⟩
theorem gsF_asc (cs : List Int) : ∀ k, (gsF cs k).Pairwise fun a b => a.1 < b.1
  | 0 => by simp [gsF]
  | k + 1 => by
    simp only [gsF]
    refine List.pairwise_append.2 ⟨gsF_asc cs k, by split <;> simp, fun a ha b hb => ?_⟩
    obtain ⟨i, hi, _, rfl⟩ := gsF_mem.1 ha
    split at hb
    · simp at hb; subst hb; exact hi
    · cases hb
def order8 : List Int := tab 8 (fun i => (i : Int))
theorem lrel0 {cs : List Int} (h : countsOk cs = true) : LRel cs order8 (gsF cs 8) := by
  have hl := (countsOk_iff.1 h).1
  refine ⟨rfl, fun i hi => by rw [show gi order8 (i : Int) = i from tab_gi hi, hl]; omega, fun e he => ?_, gsF_asc cs 8, fun j hj hp => ?_⟩
  · obtain ⟨i, hi, hp, rfl⟩ := gsF_mem.1 he
    refine ⟨by rw [hl]; exact hi, rfl, hp, fun k hk => ?_⟩
    rw [show gi order8 (k : Int) = k from tab_gi hk]
    simp
  · exact ⟨_, gsF_mem.2 ⟨j, by omega, hp, rfl⟩, rfl⟩
theorem gsF_len (cs : List Int) : (gsF cs 8).length = (grps cs).length := by
  have := congrArg List.length (gsF_snd cs 8)
  simpa [grps] using this

theorem sumN_two_le {f : Nat → Int} (h0 : ∀ i, 0 ≤ f i) {a b : Nat} (ha : a < 8) (hb : b < 8) (hab : a ≠ b) : f a + f b ≤ sumN f 8 := by
  have h1 : sumN (fun j => if j = a then f a else if j = b then f b else 0) 8 = f a + f b := by
    rw [sum_two (f := fun j => if j = a then f a else if j = b then f b else 0) ha hb hab fun i _ h1 h2 => by rw [if_neg h1, if_neg h2]]
    rw [if_pos rfl, if_neg (Ne.symm hab), if_pos rfl]
  rw [← h1]
  refine sumN_le fun i _ => ?_
  by_cases e : i = a
  · rw [if_pos e, e]; exact Int.le_refl _
  · rw [if_neg e]
    by_cases e2 : i = b
    · rw [if_pos e2, e2]; exact Int.le_refl _
    · rw [if_neg e2]; exact h0 i
/-- One symbol alone: it has the whole sum. -/
theorem one_sum {cs : List Int} (h : lensOk cs = true) : ∃ a : Nat, leastW cs = a ∧ a < 8 ∧ 0 < gi cs a ∧ ((grps cs).length = 1 ↔ cs.sum = gi cs a) ∧ ((grps cs).length = 1 → firstSym (grps cs) = a) := by
  have hc := lensOk_counts h
  have hl := (countsOk_iff.1 hc).1
  have hs := grps_some h
  have R := lrel0 hc
  obtain ⟨hi, hp⟩ := R.pick (by rw [gsF_len]; exact hs)
  have hm := List.getElem_mem hi
  obtain ⟨a, ha, hpos, he⟩ := gsF_mem.1 hm
  rw [he] at hp
  have hsum := sum_sumN cs
  rw [hl] at hsum
  have hnn : ∀ i : Nat, 0 ≤ gi cs i := fun i => (counts_at hc i).1
  refine ⟨a, hp, ha, hpos, ⟨fun h1 => ?_, fun h1 => ?_⟩, fun h1 => ?_⟩
  · obtain ⟨g, hg⟩ : ∃ g, gsF cs 8 = [g] := List.length_eq_one_iff.1 (by rw [gsF_len]; exact h1)
    have hz : ∀ i : Nat, i < 8 → i ≠ a → gi cs i = 0 := fun i hi' hne => by
      refine Classical.byContradiction fun hn => ?_
      have h2 : (i, (⟨gi cs i, [(i : Int)]⟩ : Grp)) ∈ gsF cs 8 := gsF_mem.2 ⟨i, hi', by have := hnn i; omega, rfl⟩
      have h3 : (a, (⟨gi cs a, [(a : Int)]⟩ : Grp)) ∈ gsF cs 8 := gsF_mem.2 ⟨a, ha, hpos, rfl⟩
      rw [hg] at h2 h3
      simp only [List.mem_singleton] at h2 h3
      rw [← h3] at h2
      exact hne (Prod.mk.inj h2).1
    rw [hsum, sumN_ext (g := fun j => if j = a then gi cs a else (fun _ => 0) j) fun i hi' => ?_]
    · rw [sumN_upd ha, sumN_zero]; omega
    · by_cases e : i = a
      · rw [if_pos e, e]
      · rw [if_neg e]; exact hz i hi' e
  · refine Classical.byContradiction fun hn => ?_
    -- another symbol is used too
    obtain ⟨b, hb, hbp, hab⟩ : ∃ b : Nat, b < 8 ∧ 0 < gi cs b ∧ b ≠ a := by
      refine Classical.byContradiction fun hno => hn ?_
      have hall : ∀ e ∈ gsF cs 8, e = (a, ⟨gi cs a, [(a : Int)]⟩) := fun e he' => by
        obtain ⟨i, h2, h3, rfl⟩ := gsF_mem.1 he'
        have : i = a := Classical.byContradiction fun hne => hno ⟨i, h2, h3, hne⟩
        rw [this]
      have hasc := gsF_asc cs 8
      cases hG : gsF cs 8 with
      | nil => rw [← gsF_len, hG] at hs; simp at hs
      | cons x l =>
        cases l with
        | nil => rw [← gsF_len, hG]; rfl
        | cons y l =>
          rw [hG] at hasc hall
          have h1' := (List.pairwise_cons.1 hasc).1 y (by simp)
          have hx := hall x (by simp)
          have hy := hall y (by simp)
          rw [hx, hy] at h1'
          dsimp only at h1'
          omega
    have := sumN_two_le (f := fun i => gi cs i) hnn ha hb (Ne.symm hab)
    omega
  · obtain ⟨g, hg⟩ : ∃ g, grps cs = [g] := List.length_eq_one_iff.1 h1
    have h3 : (⟨gi cs a, [(a : Int)]⟩ : Grp) ∈ grps cs := grpsF_mem.2 ⟨a, ha, hpos, rfl⟩
    rw [hg] at h3
    simp only [List.mem_singleton] at h3
    rw [hg, ← h3]
    rfl

theorem set_self {xs : List Int} {i : Nat} {x : Int} (h : gi xs i = x) (hi : i < xs.length) : xs.set i x = xs := by
  refine eq_of_gi (by simp) fun j hj => ?_
  by_cases e : i = j
  · subst e; rw [gi_set_same hi, h]
  · rw [gi_set_other e]

/-! ### Only proportions count -/
def dbl (g : Grp) : Grp := ⟨2 * g.w, g.ss⟩
theorem grpAt_dbl (F : List Grp) (i : Nat) : grpAt (F.map dbl) i = dbl (grpAt F i) := by
  unfold grpAt
  simp only [List.getD, List.getElem?_map]
  cases F[i]? <;> rfl
theorem scanF_dbl (F : List Grp) : ∀ k, scanF (F.map dbl) k = scanF F k
  | 0 => rfl
  | k + 1 => by
    simp only [scanF, scanF_dbl F k, grpAt_dbl]
    unfold dbl
    dsimp only
    by_cases h : (grpAt F k).w < (grpAt F (scanF F k)).w
    · rw [if_pos h, if_pos (by omega)]
    · rw [if_neg h, if_neg (by omega)]
theorem leastIx_dbl (F : List Grp) : leastIx (F.map dbl) = leastIx F := by unfold leastIx; rw [List.length_map, scanF_dbl]
theorem huffF_dbl : ∀ (k : Nat) (F : List Grp) (ls : List Int), huffF k (F.map dbl) ls = huffF k F ls
  | 0, _, _ => rfl
  | k + 1, F, ls => by
    simp only [huffF, leastIx_dbl, grpAt_dbl, ← map_eraseIdx']
    generalize (F.eraseIdx (leastIx F)).eraseIdx (leastIx (F.eraseIdx (leastIx F))) = R
    generalize grpAt F (leastIx F) = a
    generalize grpAt (F.eraseIdx (leastIx F)) (leastIx (F.eraseIdx (leastIx F))) = b
    have e : R.map dbl ++ [⟨(dbl a).w + (dbl b).w, (dbl a).ss ++ (dbl b).ss⟩] = (R ++ [(⟨a.w + b.w, a.ss ++ b.ss⟩ : Grp)]).map dbl := by simp [dbl, Int.mul_add]
    rw [e]
    exact huffF_dbl k _ _
theorem grps_dbl {cs ds : List Int} (h : ∀ i : Nat, i < 8 → gi ds i = 2 * gi cs i) : grps ds = (grps cs).map dbl := by
  have : ∀ k, k ≤ 8 → grpsF ds k = (grpsF cs k).map dbl := by
    intro k
    induction k with
    | zero => intro _; rfl
    | succ k ih =>
      intro hk
      simp only [grpsF, ih (by omega), List.map_append, h k (by omega)]
      congr 1
      by_cases hp : 0 < gi cs k
      · rw [if_pos hp, if_pos (by omega)]; rfl
      · rw [if_neg hp, if_neg (by omega)]; rfl
  exact this 8 (by omega)
theorem lens_dbl {cs ds : List Int} (h : ∀ i : Nat, i < 8 → gi ds i = 2 * gi cs i) : lens0 ds = lens0 cs := by
  unfold lens0
  rw [grps_dbl h, List.length_map, huffF_dbl]
  have e : firstSym ((grps cs).map dbl) = firstSym (grps cs) := by unfold firstSym; rw [grpAt_dbl]; rfl
  rw [e]

/-- Two symbols: one bit each. -/
theorem lens_two {cs : List Int} (h : lensOk cs = true) {a b : Nat} (ha : a < 8) (hb : b < 8) (hab : a ≠ b) (pa : 0 < gi cs a) (pb : 0 < gi cs b) (hz : ∀ i : Nat, i < 8 → i ≠ a → i ≠ b → gi cs i = 0) :
    gi (lens0 cs) a = 1 ∧ gi (lens0 cs) b = 1 ∧ (lens0 cs).sum = 2 := by
  have B := lens_best h
  have ua := (B.used a ha).1 pa
  have ub := (B.used b hb).1 pb
  have uz : ∀ i : Nat, i < 8 → i ≠ a → i ≠ b → gi (lens0 cs) i = 0 := fun i hi h1 h2 => by
    have h3 := (B.used i hi).2
    have h4 := B.range i hi
    have h5 := hz i hi h1 h2
    refine Classical.byContradiction fun hn => ?_
    have := h3 (by omega)
    omega
  have h2 : 2 ≤ (grps cs).length := by
    refine Classical.byContradiction fun hn => ?_
    have h1 : (grps cs).length = 1 := by have := grps_some h; omega
    obtain ⟨g, hg⟩ : ∃ g, grps cs = [g] := List.length_eq_one_iff.1 h1
    have m1 : (⟨gi cs a, [(a : Int)]⟩ : Grp) ∈ grps cs := grpsF_mem.2 ⟨a, ha, pa, rfl⟩
    have m2 : (⟨gi cs b, [(b : Int)]⟩ : Grp) ∈ grps cs := grpsF_mem.2 ⟨b, hb, pb, rfl⟩
    rw [hg] at m1 m2
    simp only [List.mem_singleton] at m1 m2
    rw [← m1] at m2
    simp at m2
    omega
  have hk := B.more h2
  rw [kraft_sumN, B.len, sum_two ha hb hab fun i hi h1 h2 => by rw [uz i hi h1 h2]; rfl, part_pw ua, part_pw ub] at hk
  have ra := B.range a ha
  have rb := B.range b hb
  have hcases : ∀ x : Int, 0 < x → x ≤ 7 → (x = 1 ∧ pw x.toNat = 128) ∨ pw x.toNat ≤ 64 := fun x h0 h7 => by
    have : x = 1 ∨ x = 2 ∨ x = 3 ∨ x = 4 ∨ x = 5 ∨ x = 6 ∨ x = 7 := by omega
    rcases this with rfl | rfl | rfl | rfl | rfl | rfl | rfl <;> decide
  have c1 := hcases _ ua ra.2
  have c2 := hcases _ ub rb.2
  have e1 : gi (lens0 cs) a = 1 := by omega
  have e2 : gi (lens0 cs) b = 1 := by omega
  refine ⟨e1, e2, ?_⟩
  rw [sum_sumN, B.len, sum_two ha hb hab uz, e1, e2]
  rfl

/-! ### The bits of a list -/
def prefixBits (xs : List Int) : Int := if listOk xs = true then (if xs.length = 0 then 0 else lengthsCost (cntOf xs) (lens0 (cntOf xs))) else -1
theorem cnt_lensOk {xs : List Int} (h : listOk xs = true) (hl : xs.length ≠ 0) : lensOk (cntOf xs) = true := by
  obtain ⟨h1, h2⟩ := cntOf_ok h
  simp only [lensOk, Bool.and_eq_true, Bool.not_eq_true', decide_eq_false_iff_not]
  exact ⟨h1, by omega⟩
theorem three_ok : lengthsValid [3, 3, 3, 3, 3, 3, 3, 3] = true ∧ ∀ i : Nat, i < 8 → gi [3, 3, 3, 3, 3, 3, 3, 3] i = 3 := by decide +kernel
theorem prefixBits_bd {xs : List Int} (h : listOk xs = true) : (xs.length : Int) ≤ prefixBits xs ∧ prefixBits xs ≤ 3 * xs.length := by
  unfold prefixBits
  rw [if_pos h]
  by_cases h0 : xs.length = 0
  · rw [if_pos h0]; omega
  · rw [if_neg h0]
    have hk := cnt_lensOk h h0
    obtain ⟨c1, c2⟩ := cntOf_ok h
    have B := lens_best hk
    have hsum := sum_sumN (cntOf xs)
    rw [(countsOk_iff.1 c1).1, c2] at hsum
    have hT := lengthsCost_of c1 three_ok.1 fun i hi _ => by rw [three_ok.2 i hi]; decide
    have e3 : sumN (fun i => gi (cntOf xs) i * gi [3, 3, 3, 3, 3, 3, 3, 3] i) 8 = 3 * xs.length := by
      rw [hsum, sumN_ext (g := fun i => gi (cntOf xs) i + (gi (cntOf xs) i + gi (cntOf xs) i)) fun i hi => by rw [three_ok.2 i hi]; omega, sumN_add, sumN_add]
      omega
    have hle := lens_le hk (ls := [3, 3, 3, 3, 3, 3, 3, 3]) (by rw [hT, e3]; omega)
    rw [hT, e3] at hle
    refine ⟨?_, hle.2⟩
    rw [lens_cost hk, hsum]
    refine sumN_le fun i hi => ?_
    have hc := counts_at c1 i
    by_cases hp : 0 < gi (cntOf xs) i
    · have := (B.used i hi).1 hp
      have h2 : gi (cntOf xs) i * 1 ≤ gi (cntOf xs) i * gi (lens0 (cntOf xs)) i := Int.mul_le_mul_of_nonneg_left (by omega) (by omega)
      omega
    · have : gi (cntOf xs) i = 0 := by omega
      rw [this]; simp
theorem prefixBits_ok {xs : List Int} (h : 0 ≤ prefixBits xs) : listOk xs = true := by
  unfold prefixBits at h
  by_cases hk : listOk xs = true
  · exact hk
  · rw [if_neg hk] at h; omega
theorem occ_cons (x : Int) (xs : List Int) (s : Int) : ∀ k, occ (x :: xs) s (k + 1) = (if x = s then 1 else 0) + occ xs s k
  | 0 => by simp [occ, gi]
  | k + 1 => by
    rw [occ, occ_cons x xs s k]
    simp only [occ]
    have : gi (x :: xs) ((k + 1 : Nat) : Int) = gi xs k := by simp [gi]
    rw [this]; omega
theorem occ_count (s : Int) : ∀ xs : List Int, occ xs s xs.length = (xs.map fun x => if x = s then 1 else 0).sum
  | [] => rfl
  | x :: xs => by rw [List.length_cons, occ_cons, occ_count s xs, List.map_cons, List.sum_cons]
/-- Order does not count. -/
theorem cntOf_reverse {xs : List Int} (h : listOk xs = true) : listOk xs.reverse = true ∧ cntOf xs.reverse = cntOf xs := by
  obtain ⟨h1, h2⟩ := listOk_iff.1 h
  have h3 : allIn 0 7 xs.reverse = true := by simpa [allIn, List.all_reverse] using h2
  refine ⟨listOk_iff.2 ⟨by simpa using h1, h3⟩, ?_⟩
  unfold cntOf
  refine eq_of_gi (by rw [cntF_length, cntF_length]) fun i hi => ?_
  rw [cntF_length] at hi
  rw [cntF_gi h3 hi _ (Nat.le_refl _), cntF_gi h2 hi _ (Nat.le_refl _), occ_count, occ_count]
  exact perm_sum _ (List.reverse_perm xs)
theorem prefixBits_reverse {xs : List Int} (h : listOk xs = true) : prefixBits xs.reverse = prefixBits xs := by
  obtain ⟨h1, h2⟩ := cntOf_reverse h
  unfold prefixBits
  rw [if_pos h, if_pos h1, h2, List.length_reverse]
end Go.Proofs.Ytjiildnfegechaa
