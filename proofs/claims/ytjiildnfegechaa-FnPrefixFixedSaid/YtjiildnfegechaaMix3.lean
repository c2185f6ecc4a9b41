/-
  Regions that draw their order, whose last operation writes what the others read.
-/
import Derived.Test.YtjiildnfegechaaMix2
namespace Go.Proofs.Ytjiildnfegechaa
set_option linter.unusedVariables false
set_option linter.unusedSimpArgs false
set_option linter.unnecessarySimpa false
open Go.RowKit

section
variable {P : Program} {ops : Array Oper} {md : Region.Mode} {C : World → Prop}

/-- As `wpAnyC`, but the last operation may leave the class. -/
def wpAnyL (P : Program) (md : Region.Mode) (ops : Array Oper) (C : World → Prop) (z : Nat) (Q : Act → World → Prop) : Nat → Array Bool → Act → World → Prop
  | 0, listed, a, w => Region.ready md ops listed = [] ∧ Q a w
  | fuel + 1, listed, a, w =>
    (Region.ready md ops listed = [] → Q a w) ∧
    ∀ i ∈ Region.ready md ops listed, cOp P ops i (fun a' w' => (i = z ∨ C w') ∧ wpAnyL P md ops C z Q fuel (listed.setIfInBounds i true) a' w') a w

theorem wpAny_of_L {z : Nat} {Q : Act → World → Prop} {Q' : Exit → Act → World → Prop} (hQ : ∀ a w, Q a w → Q' .normal a w) : ∀ (fuel : Nat) (listed : Array Bool) (a : Act) (w : World), wpAnyL P md ops C z Q fuel listed a w → wpAny P md ops Q' fuel listed a w
  | 0, _, _, _, h => ⟨h.1, hQ _ _ h.2⟩
  | fuel + 1, _, _, _, h => ⟨fun h0 => hQ _ _ (h.1 h0), fun i hi => wpOp_mono (fun a' w' h' => wpAny_of_L hQ fuel _ a' w' h'.2) (wpOp_of_cOp (h.2 i hi))⟩

theorem wpAnyL_first {Q : Act → World → Prop} {z i : Nat} {oi : Oper} {v : Value} (hi : ops[i]? = some oi) (hz : ∀ oz, ops[z]? = some oz → ∃ e ∈ oz.after, Region.binds md e = true ∧ e.on = i) (hsel : ∀ (j : Nat) (o : Oper) cs b, ops[j]? = some o → o.op ≠ .select cs b) :
    ∀ (fuel : Nat) (listed : Array Bool) (a : Act) (w : World), C w →
      (∀ j oj, ops[j]? = some oj → j ≠ i → listed.getD j true = false → (∀ e ∈ oj.after, Region.binds md e = true → e.on ≠ i) → oi.apart ops oj = true) →
      i ∈ Region.ready md ops listed → YieldsC P ops C oi v a →
      wpAnyL P md ops C z Q fuel (listed.setIfInBounds i true) (a.put oi.dst v) w → wpAnyL P md ops C z Q (fuel + 1) listed a w := by
  intro fuel
  induction fuel with
  | zero =>
    intro listed a w hw _ hr hy H
    refine ⟨fun h => (by rw [h] at hr; cases hr), fun j hj => ?_⟩
    by_cases hji : j = i
    · subst hji; exact hy.cOp hi hw ⟨.inr hw, H⟩
    · have := ready_mono hj hji
      rw [H.1] at this
      cases this
  | succ fuel ih =>
    intro listed a w hw hfree hr hy H
    refine ⟨fun h => (by rw [h] at hr; cases hr), fun j hj => ?_⟩
    by_cases hji : j = i
    · subst hji; exact hy.cOp hi hw ⟨.inr hw, H⟩
    · have h1 := H.2 j (ready_mono hj hji)
      obtain ⟨hjun, oj, hoj, hall⟩ := mem_ready.1 hj
      have hnot : ∀ e ∈ oj.after, Region.binds md e = true → e.on ≠ i := fun e he hb heq => by
        have h1 := hall e he hb
        rw [heq, getD_both (mem_ready.1 hr).1] at h1
        cases h1
      have hjz : j ≠ z := fun e => by
        subst e
        obtain ⟨ed, h1, h2, h3⟩ := hz oj hoj
        exact hnot ed h1 h2 h3
      have h2 := cOp_put hoj (hfree j oj hoj hji hjun hnot) (fun cs b => hsel i oi cs b hi) (fun cs b => hsel j oj cs b hoj) hy h1
      have hfree' : ∀ k ok, ops[k]? = some ok → k ≠ i → (listed.setIfInBounds j true).getD k true = false →
          (∀ e ∈ ok.after, Region.binds md e = true → e.on ≠ i) → oi.apart ops ok = true := fun k ok hk hki hun hno => by
        refine hfree k ok hk hki ?_ hno
        by_cases hjk : j = k
        · subst hjk; exact hjun
        · rw [getD_set_ne true hjk] at hun; exact hun
      refine cOp_mono (fun a' w' h3 => ?_) h2
      have hC : C w' := h3.2.1.resolve_left hjz
      refine ⟨.inr hC, ih (listed.setIfInBounds j true) a' w' hC hfree' (ready_mono hr (Ne.symm hji)) h3.1 ?_⟩
      rw [Array.setIfInBounds_comm _ _ hji]
      exact h3.2.2

theorem wpAnyL_pre {Q K : Act → World → Prop} {z : Nat} (hs : Region.noSelect ops = true) (hz : ∀ i, i ≠ z → i < ops.size → ∀ oz, ops[z]? = some oz → ∃ e ∈ oz.after, Region.binds md e = true ∧ e.on = i) (fuel : Nat) : ∀ (ks : List Nat) (l : List Oper) (listed : Array Bool) (a : Act) (w : World), z ∉ ks → ks.mapM (ops[·]?) = some l → C w →
    mixPre md ops ks listed = true → wpMix P ops C K l a w → (∀ a w, C w → K a w → wpAnyL P md ops C z Q fuel (listAll listed ks) a w) → wpAnyL P md ops C z Q (ks.length + fuel) listed a w
  | [], l, listed, a, w, _, hl, hw, _, h, hK => by
    simp at hl
    subst hl
    rw [List.length_nil, Nat.zero_add]
    exact hK a w hw h
  | k :: ks, l, listed, a, w, hn, hl, hw, hB, h, hK => by
    simp only [List.mapM_cons, bind, Option.bind_eq_some_iff, pure, Option.some.injEq] at hl
    obtain ⟨o, ho, l', hl', rfl⟩ := hl
    simp only [mixPre, ho, Option.elim, Bool.and_eq_true] at hB
    obtain ⟨hB1, hB2⟩ := hB
    simp only [wpMix] at h
    rw [List.length_cons, show ks.length + 1 + fuel = (ks.length + fuel) + 1 by omega]
    have hn' : z ∉ ks := fun h => hn (List.mem_cons_of_mem _ h)
    have hkz : k ≠ z := fun h => hn (by rw [h]; exact List.mem_cons_self)
    have hK' : ∀ a w, C w → K a w → wpAnyL P md ops C z Q fuel (listAll (listed.setIfInBounds k true) ks) a w := hK
    by_cases he : isEff o.op = true
    · rw [if_pos he] at hB1
      have hr : Region.ready md ops listed = [k] := of_decide_eq_true hB1
      refine ⟨fun h0 => (by rw [hr] at h0; cases h0), fun i hi => ?_⟩
      rw [hr] at hi
      obtain rfl : i = k := by simpa using hi
      unfold cOp
      simp only [ho]
      split
      · rename_i hwt
        rw [if_pos hwt, if_pos he] at h
        exact stepC_mono (fun a' w' h' => ⟨.inr h'.1, wpAnyL_pre hs hz fuel ks l' _ a' w' hn' hl' h'.1 hB2 h'.2 hK'⟩) h
      · rename_i hwt
        rw [if_neg hwt] at h
        exact ⟨.inr hw, wpAnyL_pre hs hz fuel ks l' _ _ w hn' hl' hw hB2 h hK'⟩
    · rw [if_neg he] at hB1
      simp only [Bool.and_eq_true] at hB1
      obtain ⟨hr, hf⟩ := hB1
      have hr' : k ∈ Region.ready md ops listed := by simpa using hr
      have : ∃ v, YieldsC P ops C o v a ∧ wpMix P ops C K l' (a.put o.dst v) w := by
        by_cases hwt : Region.wanted o (yielded ops a.tmps) = true
        · rw [if_pos hwt, if_neg he] at h
          obtain ⟨v, h1, h2⟩ := h
          exact ⟨v, .inl ⟨hwt, h1⟩, h2⟩
        · rw [if_neg hwt] at h
          exact ⟨undef, .inr ⟨by simpa using hwt, rfl⟩, h⟩
      obtain ⟨v, hy, hKv⟩ := this
      have hk : k < ops.size := by
        rw [Array.getElem?_eq_some_iff] at ho
        exact ho.1
      exact wpAnyL_first ho (hz k hkz hk) (Region.noSelect_spec hs) (ks.length + fuel) listed a w hw (Region.free_spec ho hf) hr' hy (wpAnyL_pre hs hz fuel ks l' _ _ w hn' hl' hw hB2 hKv hK')

def lastOk (md : Region.Mode) (ops : Array Oper) (ks : List Nat) (z : Nat) : Bool := Region.noSelect ops && (decide (ks.length + 1 = ops.size) && (mixPre md ops ks (Array.replicate ops.size false) && (decide (Region.ready md ops (listAll (Array.replicate ops.size false) ks) = [z]) && (decide (Region.ready md ops ((listAll (Array.replicate ops.size false) ks).setIfInBounds z true) = []) && (!ks.contains z &&
  ((ops[z]?).elim false (fun o => isEff o.op && (List.range ops.size).all fun i => i == z || o.after.toList.any fun e => Region.binds md e && e.on == i)))))))

theorem wp_region_last {id : Nat} {Q : Exit → Act → World → Prop} {a : Act} {w : World} {l ol : List Oper} {oz : Oper} (ks : List Nat) (z : Nat) (hm : P.follows .mixedOrders = true) (hB : lastOk .any l.toArray ks z = true) (hl : ks.mapM (l.toArray[·]?) = some ol) (hz : l.toArray[z]? = some oz) (hC : C w.drew)
    (h : wpMix P l.toArray C (fun a w => wpMix P l.toArray (fun _ => True) (fun a' w' => Q .normal a' w') [oz] a w) ol a w.drew) : (Code.region id l.toArray true).wp P Q a w := by
  simp only [lastOk, Bool.and_eq_true, decide_eq_true_eq, hz, Option.elim] at hB
  obtain ⟨b1, b2, b3, b4, b5, b6, b7, b8⟩ := hB
  refine wp_region_any hm (wpAny_of_L (C := C) (z := z) (Q := fun a' w' => Q .normal a' w') (fun a w h => h) _ _ _ _ ?_)
  have hzz : ∀ i, i ≠ z → i < l.toArray.size → ∀ oz', l.toArray[z]? = some oz' → ∃ e ∈ oz'.after, Region.binds .any e = true ∧ e.on = i := fun i hi hs oz' ho => by
    rw [hz] at ho
    cases ho
    have := List.all_eq_true.1 b8 i (List.mem_range.2 hs)
    simp only [Bool.or_eq_true, beq_iff_eq, hi, false_or, List.any_eq_true, Bool.and_eq_true] at this
    obtain ⟨e, h1, h2, h3⟩ := this
    exact ⟨e, by simpa using h1, h2, h3⟩
  have := wpAnyL_pre (md := .any) (Q := fun a' w' => Q .normal a' w') b1 hzz 1 ks ol (Array.replicate l.toArray.size false) a w.drew (by simpa using b6) hl hC b3 h (fun a w hw hh => by
    refine ⟨fun h0 => (by rw [b4] at h0; cases h0), fun i hi => ?_⟩
    rw [b4] at hi
    obtain rfl : i = z := by simpa using hi
    refine cOp_mono (fun a' w' h' => ⟨.inl rfl, b5, h'.2⟩) (cOp_of_mix hz b7 trivial hh))
  rw [b2] at this
  exact this
end

section
variable {P : Program} {n : Nat} {e : List (Nat × Value)} {Q : Exit → Act → World → Prop} {w w0 : World} {ops : Array Oper} {C : World → Prop} {L : List Ent}
theorem u_last {id : Nat} {l ol : List Oper} {oz : Oper} (ks : List Nat) (z : Nat) (C : World → Prop) (hm : P.follows .mixedOrders = true) (hB : lastOk .any l.toArray ks z = true) (hl : ks.mapM (l.toArray[·]?) = some ol) (hz : l.toArray[z]? = some oz) (S : Sep w0 L w) (hC : ∀ w', Sep w0 L w' → C w')
    (h : ∀ w', Sep w0 L w' → UM P n e l.toArray C (QK fun a w => wpMix P l.toArray (fun _ => True) (fun a' w' => Q .normal a' w') [oz] a w) ol w') : UW P n e (.region id l.toArray true) Q w := ⟨fun a H =>
  wp_region_last ks z hm hB hl hz (hC _ S.drew) ((h _ S.drew).go a H)⟩
theorem um_last {l : List Oper} (h : UM P n e ops (fun _ => True) Q l w) : UM P n e ops C (QK fun a w => wpMix P ops (fun _ => True) (fun a' w' => Q .normal a' w') l a w) [] w := ⟨fun a H => h.go a H⟩
end
end Go.Proofs.Ytjiildnfegechaa
