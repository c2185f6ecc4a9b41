/-
  Regions that draw their order, with two operations with effects ready at once: a tree of orders.
-/
import Derived.Test.YtjiildnfegechaaWalk4
namespace Go.Proofs.Ytjiildnfegechaa
set_option linter.unusedVariables false
set_option linter.unusedSimpArgs false
set_option linter.unnecessarySimpa false
open Go.RowKit

inductive MTree where
  | fin (l : List Nat)
  | fork (l : List Nat) (k : Nat) (s : MTree) (j : Nat) (t : MTree)

def MTree.size : MTree → Nat
  | .fin l => l.length
  | .fork l _ s _ _ => l.length + (s.size + 1)

def listAll (listed : Array Bool) (l : List Nat) : Array Bool := l.foldl (fun a k => a.setIfInBounds k true) listed

section
variable {P : Program} {ops : Array Oper} {md : Region.Mode} {C : World → Prop}

/-- A beginning of an order: what only reads is free; what writes stands alone. -/
def mixPre (md : Region.Mode) (ops : Array Oper) : List Nat → Array Bool → Bool
  | [], _ => true
  | k :: ks, listed =>
    (if (ops[k]?).elim false (fun o => isEff o.op) then decide (Region.ready md ops listed = [k]) else (Region.ready md ops listed).contains k && Region.free md ops listed k) && mixPre md ops ks (listed.setIfInBounds k true)

def treeB (md : Region.Mode) (ops : Array Oper) : MTree → Array Bool → Bool
  | .fin l, listed => mixFrom md ops l listed
  | .fork l k s j t, listed => mixPre md ops l listed && (decide (Region.ready md ops (listAll listed l) = [k, j]) && ((ops[k]?).elim false (fun o => isEff o.op) && ((ops[j]?).elim false (fun o => isEff o.op) &&
      (decide (s.size = t.size) && (treeB md ops s ((listAll listed l).setIfInBounds k true) && treeB md ops t ((listAll listed l).setIfInBounds j true))))))

/-- The walks in all these orders. -/
def wpTree (P : Program) (ops : Array Oper) (C : World → Prop) (Q : Act → World → Prop) : MTree → Act → World → Prop
  | .fin l, a, w => ∃ ol, l.mapM (ops[·]?) = some ol ∧ wpMix P ops C Q ol a w
  | .fork l k s j t, a, w => ∃ ol ok oj, l.mapM (ops[·]?) = some ol ∧ ops[k]? = some ok ∧ ops[j]? = some oj ∧
      wpMix P ops C (fun a w => wpMix P ops C (fun a w => wpTree P ops C Q s a w) [ok] a w ∧ wpMix P ops C (fun a w => wpTree P ops C Q t a w) [oj] a w) ol a w

theorem wpAnyC_pre {Q K : Act → World → Prop} (hs : Region.noSelect ops = true) (fuel : Nat) : ∀ (ks : List Nat) (l : List Oper) (listed : Array Bool) (a : Act) (w : World), ks.mapM (ops[·]?) = some l → C w →
    mixPre md ops ks listed = true → wpMix P ops C K l a w → (∀ a w, C w → K a w → wpAnyC P md ops C Q fuel (listAll listed ks) a w) → wpAnyC P md ops C Q (ks.length + fuel) listed a w
  | [], l, listed, a, w, hl, hw, _, h, hK => by
    simp at hl
    subst hl
    rw [List.length_nil, Nat.zero_add]
    exact hK a w hw h
  | k :: ks, l, listed, a, w, hl, hw, hB, h, hK => by
    simp only [List.mapM_cons, bind, Option.bind_eq_some_iff, pure, Option.some.injEq] at hl
    obtain ⟨o, ho, l', hl', rfl⟩ := hl
    simp only [mixPre, ho, Option.elim, Bool.and_eq_true] at hB
    obtain ⟨hB1, hB2⟩ := hB
    simp only [wpMix] at h
    rw [List.length_cons, show ks.length + 1 + fuel = (ks.length + fuel) + 1 by omega]
    have hK' : ∀ a w, C w → K a w → wpAnyC P md ops C Q fuel (listAll (listed.setIfInBounds k true) ks) a w := hK
    by_cases he : isEff o.op = true
    · rw [if_pos he] at hB1
      have hr : Region.ready md ops listed = [k] := of_decide_eq_true hB1
      refine ⟨fun h0 => (by rw [hr] at h0; cases h0), fun i hi => ?_⟩
      rw [hr] at hi
      obtain rfl : i = k := by simpa using hi
      unfold cOp
      simp only [ho]
      split
      · rename_i hwt
        rw [if_pos hwt, if_pos he] at h
        exact stepC_mono (fun a' w' h' => ⟨h'.1, wpAnyC_pre hs fuel ks l' _ a' w' hl' h'.1 hB2 h'.2 hK'⟩) h
      · rename_i hwt
        rw [if_neg hwt] at h
        exact ⟨hw, wpAnyC_pre hs fuel ks l' _ _ w hl' hw hB2 h hK'⟩
    · rw [if_neg he] at hB1
      simp only [Bool.and_eq_true] at hB1
      obtain ⟨hr, hf⟩ := hB1
      have hr' : k ∈ Region.ready md ops listed := by simpa using hr
      have : ∃ v, YieldsC P ops C o v a ∧ wpMix P ops C K l' (a.put o.dst v) w := by
        by_cases hwt : Region.wanted o (yielded ops a.tmps) = true
        · rw [if_pos hwt, if_neg he] at h
          obtain ⟨v, h1, h2⟩ := h
          exact ⟨v, .inl ⟨hwt, h1⟩, h2⟩
        · rw [if_neg hwt] at h
          exact ⟨undef, .inr ⟨by simpa using hwt, rfl⟩, h⟩
      obtain ⟨v, hy, hKv⟩ := this
      exact wpAnyC_first ho (Region.noSelect_spec hs) (ks.length + fuel) listed a w hw (Region.free_spec ho hf) hr' hy (wpAnyC_pre hs fuel ks l' _ _ w hl' hw hB2 hKv hK')

theorem cOp_of_mix {K : Act → World → Prop} {k : Nat} {o : Oper} {a : Act} {w : World} (ho : ops[k]? = some o) (he : isEff o.op = true) (hw : C w) (h : wpMix P ops C K [o] a w) : cOp P ops k (fun a' w' => C w' ∧ K a' w') a w := by
  unfold cOp
  simp only [ho]
  simp only [wpMix] at h
  split
  · rename_i hwt
    rw [if_pos hwt, if_pos he] at h
    exact h
  · rename_i hwt
    rw [if_neg hwt] at h
    exact ⟨hw, h⟩

theorem wpAnyC_tree {Q : Act → World → Prop} (hs : Region.noSelect ops = true) : ∀ (T : MTree) (listed : Array Bool) (a : Act) (w : World), C w → treeB md ops T listed = true → wpTree P ops C Q T a w → wpAnyC P md ops C Q T.size listed a w
  | .fin l, listed, a, w, hw, hB, h => by
    obtain ⟨ol, h1, h2⟩ := h
    exact wpAnyC_mix hs l ol listed a w h1 hw hB h2
  | .fork l k s j t, listed, a, w, hw, hB, h => by
    obtain ⟨ol, ok, oj, h1, h2, h3, h4⟩ := h
    simp only [treeB, Bool.and_eq_true, decide_eq_true_eq, h2, h3, Option.elim] at hB
    obtain ⟨b1, b2, b3, b4, b5, b6, b7⟩ := hB
    refine wpAnyC_pre hs (s.size + 1) l ol listed a w h1 hw b1 h4 fun a w hw hh => ?_
    refine ⟨fun h0 => (by rw [b2] at h0; cases h0), fun i hi => ?_⟩
    rw [b2] at hi
    simp only [List.mem_cons, List.not_mem_nil, or_false] at hi
    rcases hi with rfl | rfl
    · exact cOp_mono (fun a' w' h' => ⟨h'.1, wpAnyC_tree hs s _ a' w' h'.1 b6 h'.2⟩) (cOp_of_mix h2 b3 hw hh.1)
    · exact cOp_mono (fun a' w' h' => ⟨h'.1, by rw [b5]; exact wpAnyC_tree hs t _ a' w' h'.1 b7 h'.2⟩) (cOp_of_mix h3 b4 hw hh.2)

def treeOk (md : Region.Mode) (ops : Array Oper) (T : MTree) : Bool := Region.noSelect ops && (decide (T.size = ops.size) && treeB md ops T (Array.replicate ops.size false))

theorem wp_region_tree {id : Nat} {Q : Exit → Act → World → Prop} {a : Act} {w : World} {l : List Oper} (T : MTree) (hm : P.follows .mixedOrders = true) (hB : treeOk .any l.toArray T = true) (hC : C w.drew)
    (h : wpTree P l.toArray C (fun a' w' => Q .normal a' w') T a w.drew) : (Code.region id l.toArray true).wp P Q a w := by
  simp only [treeOk, Bool.and_eq_true, decide_eq_true_eq] at hB
  refine wp_region_any hm (wpAny_of_C (C := C) (Q := fun a' w' => Q .normal a' w') (fun a w h => h) _ _ _ _ ?_)
  have := wpAnyC_tree (md := .any) (Q := fun a' w' => Q .normal a' w') hB.1 T (Array.replicate l.toArray.size false) a w.drew hC hB.2.2 h
  rw [hB.2.1] at this
  exact this
end

/-! ### The same over an environment -/
/-- A continuation as an end of code. -/
def QK (K : Act → World → Prop) : Exit → Act → World → Prop := fun _ a w => K a w

structure UT (P : Program) (n : Nat) (e : List (Nat × Value)) (ops : Array Oper) (C : World → Prop) (Q : Exit → Act → World → Prop) (T : MTree) (w : World) : Prop where
  go : ∀ a, Holds n e a → wpTree P ops C (fun a' w' => Q .normal a' w') T a w

section
variable {P : Program} {n : Nat} {e : List (Nat × Value)} {Q Q' : Exit → Act → World → Prop} {w w0 : World} {ops : Array Oper} {rest : List Oper} {C : World → Prop}
variable {op : Op} {d : Nat} {ty : TypeId} {pos : String} {after : Array Edge} {v u : Value} {L K : List Ent} {F : Ent → List Ent}
variable {x y c : Operand} {t1 t2 : TypeId} {m k : Int} {dst : Option Tmp} {g : Option (Nat × Bool)}

theorem u_tree {id : Nat} {l : List Oper} (T : MTree) (C : World → Prop) (hm : P.follows .mixedOrders = true) (hB : treeOk .any l.toArray T = true) (S : Sep w0 L w) (hC : ∀ w', Sep w0 L w' → C w')
    (h : ∀ w', Sep w0 L w' → UT P n e l.toArray C Q T w') : UW P n e (.region id l.toArray true) Q w := ⟨fun a H =>
  wp_region_tree T hm hB (hC _ S.drew) ((h _ S.drew).go a H)⟩
theorem ut_fin {l : List Nat} {ol : List Oper} (hl : l.mapM (ops[·]?) = some ol) (h : UM P n e ops C Q ol w) : UT P n e ops C Q (.fin l) w := ⟨fun a H => ⟨ol, hl, h.go a H⟩⟩
theorem ut_fork {l : List Nat} {i j : Nat} {s t : MTree} {ol : List Oper} {oi oj : Oper} (hl : l.mapM (ops[·]?) = some ol) (hi : ops[i]? = some oi) (hj : ops[j]? = some oj)
    (h : UM P n e ops C (QK fun a w => wpMix P ops C (fun a w => wpTree P ops C (fun a' w' => Q .normal a' w') s a w) [oi] a w ∧ wpMix P ops C (fun a w => wpTree P ops C (fun a' w' => Q .normal a' w') t a w) [oj] a w) ol w) : UT P n e ops C Q (.fork l i s j t) w := ⟨fun a H => ⟨ol, oi, oj, hl, hi, hj, h.go a H⟩⟩
/-- Both ways. -/
theorem um_both {s t : MTree} {oi oj : Oper} (h1 : UM P n e ops C (QK fun a w => wpTree P ops C (fun a' w' => Q .normal a' w') s a w) [oi] w) (h2 : UM P n e ops C (QK fun a w => wpTree P ops C (fun a' w' => Q .normal a' w') t a w) [oj] w) :
    UM P n e ops C (QK fun a w => wpMix P ops C (fun a w => wpTree P ops C (fun a' w' => Q .normal a' w') s a w) [oi] a w ∧ wpMix P ops C (fun a w => wpTree P ops C (fun a' w' => Q .normal a' w') t a w) [oj] a w) [] w := ⟨fun a H => ⟨h1.go a H, h2.go a H⟩⟩
theorem um_tree {T : MTree} (h : UT P n e ops C Q T w) : UM P n e ops C (QK fun a w => wpTree P ops C (fun a' w' => Q .normal a' w') T a w) [] w := ⟨fun a H => h.go a H⟩

/-! ### Further operations with effects -/
theorem um_alloc {E : TypeId} {z : Value} (hz : (P.info? E).map (·.zero) = some (some z)) (S : Sep w0 L w) (hd : Nat.blt d n = true)
    (h : ∀ p w', Sep w0 (bent E p z.cells.toList :: L) w' → C w' ∧ UM P n ((d, elem p 0) :: e) ops C Q rest w') : UM P n e ops C Q (⟨some d, .alloc E, ty, pos, after, none⟩ :: rest) w := ⟨fun a H => by
  unfold wpMix
  rw [if_pos (by rfl), if_pos (by rfl)]
  obtain ⟨i, hi, hzz⟩ := Option.map_eq_some_iff.1 hz
  have hr : (execOp a.eval ⟨some d, .alloc E, ty, pos, after, none⟩).run P w = .ok (.value (elem (.pointer (some ⟨w.heap.size, 0, none⟩)) 0)) (w.alloc (.cells z.cells E)) := by
    rw [elem_zero]
    unfold execOp
    simp [Instr.alloc, zeroValue, typeInfo, hi, hzz, newVar, newRow]
  have S' : Sep w0 (bent E (.pointer (some ⟨w.heap.size, 0, none⟩)) z.cells.toList :: L) (w.alloc (.cells z.cells E)) := S.add (below_alloc _ _) (by
    simp only [bent, Ent.ok, if_true]
    exact ⟨w.heap.size, rfl, Nat.le_refl _, by simpa using heap_alloc_new w _⟩)
  rw [hr]
  obtain ⟨h1, h2⟩ := h _ _ S'
  exact ⟨h1, h2.go _ (H.put hd _)⟩⟩
theorem um_storeAgg {E E' : TypeId} {ad : Operand} {p : Value} {us cs : List Value} {sz : Nat} (hE : (P.info? E').map (·.size) = some sz) (hA : opE e ad = some (elem p 0)) (hx : opE e x = some (.agg us.toArray)) (hsz : us.length = sz) (h1 : us.all (·.oneCell') = true) (hp : 0 < us.length) (A : Acc w0 w (bent E p cs) F) (hk : us.length = cs.length)
    (h : ∀ w', Sep w0 (F (bent E p us)) w' → C w' ∧ UM P n e ops C Q rest w') : UM P n e ops C Q (⟨none, .store E' ad x, ty, pos, after, none⟩ :: rest) w := ⟨fun a H => by
  have hA' : a.eval ad = elem (bent E p cs).v 0 := H.eval hA
  obtain ⟨w', hr, hg, hok⟩ := run_store (P := P) (o := ⟨none, .store E' ad x, ty, pos, after, none⟩) (y := bent E p cs) (us := us) (k := 0) rfl (by rw [hE, hsz]) hA' (H.eval hx) (by simp [Value.cells]) (by simpa using h1) (by simp [bent]; omega) hp A.ok
  unfold wpMix
  rw [if_pos (by rfl), if_pos (by rfl), hr]
  have hS := A.upd _ _ hg hok fun k hk => .inl hk
  have : over cs 0 us = us := by simp [over, hk]
  obtain ⟨hC, hU⟩ := h w' (by simpa [bent, Ent.with, this] using hS)
  exact ⟨hC, hU.go _ H⟩⟩
theorem um_store1 {E E' : TypeId} {ad : Operand} {p : Value} {u u' : Value} (hE : (P.info? E').map (·.size) = some 1) (hA : opE e ad = some (elem p 0)) (hx : opE e x = some u) (hc : u.cells = #[u]) (h1 : u.oneCell' = true) (A : Acc w0 w (bent E p [u']) F)
    (h : ∀ w', Sep w0 (F (bent E p [u])) w' → C w' ∧ UM P n e ops C Q rest w') : UM P n e ops C Q (⟨none, .store E' ad x, ty, pos, after, none⟩ :: rest) w := ⟨fun a H => by
  have hA' : a.eval ad = elem (bent E p [u']).v 0 := H.eval hA
  obtain ⟨w', hr, hg, hok⟩ := run_store (P := P) (o := ⟨none, .store E' ad x, ty, pos, after, none⟩) (y := bent E p [u']) (us := [u]) (k := 0) rfl hE hA' (H.eval hx) (by rw [hc]) (by simpa using h1) (by simp [bent]) (by simp) A.ok
  unfold wpMix
  rw [if_pos (by rfl), if_pos (by rfl), hr]
  have hS := A.upd _ _ hg hok fun k hk => .inl hk
  obtain ⟨hC, hU⟩ := h w' (by simpa [bent, Ent.with, over] using hS)
  exact ⟨hC, hU.go _ H⟩⟩
end
end Go.Proofs.Ytjiildnfegechaa
