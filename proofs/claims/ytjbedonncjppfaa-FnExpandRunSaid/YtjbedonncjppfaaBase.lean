/-
  Plain predicates on worlds (a slice that is read, a slice that the call owns, a list of owned things), and the walk's steps over them.
-/
import Derived.Test.YtjbedonncjppfaaPure
import Derived.WalkKit
import Derived.BigQuiet
import Derived.Lib.Hide
import Derived.KernelRfl
namespace Go.Proofs.Ytjbedonncjppfaa
set_option linter.unusedVariables false
set_option linter.unusedSimpArgs false
set_option linter.unnecessarySimpa false
open Go.RowKit

/-- What an int holds. -/
def I64 (n : Int) : Prop := -9223372036854775808 ≤ n ∧ n ≤ 9223372036854775807

/-- Cell number k of a slice's own row. -/
def elem : Value → Nat → Value
  | .slice (some a) _ _, k => .pointer (some (a.add k))
  | .pointer (some a), k => .pointer (some (a.add k))
  | _, _ => .pointer none

/-- The block in which a slice or a pointer lies. -/
def blk : Value → Option Nat
  | .slice (some a) _ _ => some a.block
  | .pointer (some a) => some a.block
  | _ => none

/-- A slice of n elements, sz cells each, reads as the cells cs. -/
def Rd (w : World) (sz : Nat) (v : Value) (n : Nat) (cs : List Value) : Prop :=
  cs.length = n * sz ∧ n ≤ 1099511627776 ∧
  ((n = 0 ∧ ∃ a c, v = .slice a 0 c ∧ (a = none → c = 0)) ∨
    ∃ b o c, v = .slice (some ⟨b, o, none⟩) n c ∧ n ≤ c ∧ c ≤ maxLen ∧ ∀ j u, cs[j]? = some u → w.cell? ⟨b, o + j, none⟩ = some u)

def AllI (xs : List Int) : Prop := ∀ x ∈ xs, I64 x

/-- A slice of ints. -/
def Ints (w : World) (v : Value) (xs : List Int) : Prop := Rd w 1 v xs.length (xs.map (Value.int .i64)) ∧ AllI xs

/-- One thing that the call owns: a slice at the head of its row, or a box. -/
structure Ent where
  box : Bool
  v : Value
  e : TypeId
  sz : Nat
  n : Nat
  cs : List Value

def Ent.ok (B : Nat) (w : World) (x : Ent) : Prop :=
  if x.box then ∃ g, x.v = .pointer (some ⟨g, 0, none⟩) ∧ B ≤ g ∧ w.heap[g]? = some (.cells x.cs.toArray x.e (0, 0))
  else w.ownsRow B x.e x.sz x.v x.n x.cs ∧ x.n ≤ 1099511627776

/-- The call began in w0; the list is what it owns by now; below its own blocks nothing has turned. -/
structure Sep (w0 : World) (L : List Ent) (w : World) : Prop where
  below : Below w0.heap.size w0 w
  ok : ∀ x ∈ L, x.ok w0.heap.size w
  apart : L.Pairwise fun x y => blk x.v = none ∨ blk x.v ≠ blk y.v

theorem Sep.refl (w : World) : Sep w [] w := ⟨Below.refl _ _, by simp, by simp⟩

theorem blk_of_own {w : World} {B e sz n : Nat} {v : Value} {cs : List Value} (h : w.ownsRow B e sz v n cs) : v.ownBlock = blk v := by
  rcases h.2 with ⟨rfl, _⟩ | ⟨g, cap, cur, rfl, _⟩ <;> rfl

theorem Ent.ok_blk {B : Nat} {w : World} {x : Ent} (h : x.ok B w) : ∀ k, blk x.v = some k → B ≤ k ∧ k < w.heap.size := by
  intro k hk
  unfold Ent.ok at h
  split at h
  · obtain ⟨g, hv, hB, hg⟩ := h
    rw [hv] at hk
    simp only [blk, Option.some.injEq] at hk
    subst hk
    exact ⟨hB, (Array.getElem?_eq_some_iff.1 hg).1⟩
  · exact h.1.lt k (by rw [blk_of_own h.1]; exact hk)

theorem Ent.ok_mono {B B' : Nat} {w : World} {x : Ent} (h : x.ok B w) (hB : B' ≤ B) : x.ok B' w := by
  unfold Ent.ok at *
  split
  · rename_i hb; rw [if_pos hb] at h
    obtain ⟨g, hv, hB1, hg⟩ := h
    exact ⟨g, hv, Nat.le_trans hB hB1, hg⟩
  · rename_i hb; rw [if_neg hb] at h
    refine ⟨⟨h.1.1, ?_⟩, h.2⟩
    rcases h.1.2 with hn | ⟨g, cap, cur, hv, hb, r⟩
    · exact .inl hn
    · exact .inr ⟨g, cap, cur, hv, Nat.le_trans hB hb, r⟩

/-- What is owned stays owned where its own block has not turned. -/
theorem Ent.ok_kept {B : Nat} {w w' : World} {x : Ent} (h : x.ok B w) (hb : ∀ k, blk x.v = some k → w'.heap[k]? = w.heap[k]?) : x.ok B w' := by
  unfold Ent.ok at *
  split
  · rename_i hx; rw [if_pos hx] at h
    obtain ⟨g, hv, hB1, hg⟩ := h
    exact ⟨g, hv, hB1, by rw [hb g (by rw [hv]; rfl)]; exact hg⟩
  · rename_i hx; rw [if_neg hx] at h
    refine ⟨⟨h.1.1, ?_⟩, h.2⟩
    rcases h.1.2 with hn | ⟨g, cap, cur, hv, hB1, hg, r⟩
    · exact .inl hn
    · exact .inr ⟨g, cap, cur, hv, hB1, by rw [hb g (by rw [hv]; rfl)]; exact hg, r⟩

/-- New blocks alone. -/
theorem Sep.ext {w0 w w' : World} {L : List Ent} (S : Sep w0 L w) (h : Below w.heap.size w w') : Sep w0 L w' :=
  ⟨S.below.trans (h.mono S.below.size), fun x hx => Ent.ok_kept (S.ok x hx) fun k hk => h.block k (Ent.ok_blk (S.ok x hx) k hk).2, S.apart⟩

/-- What a callee made is the caller's. -/
theorem Sep.cat {w0 w w' : World} {L M : List Ent} (S : Sep w0 L w) (T : Sep w M w') : Sep w0 (M ++ L) w' := by
  have S' := S.ext T.below
  refine ⟨S'.below, ?_, ?_⟩
  · intro y hy
    rcases List.mem_append.1 hy with hy | hy
    · exact Ent.ok_mono (T.ok y hy) S.below.size
    · exact S'.ok y hy
  · refine List.pairwise_append.2 ⟨T.apart, S'.apart, fun x hx y hy => ?_⟩
    cases hb : blk x.v with
    | none => exact .inl rfl
    | some k =>
      refine .inr fun he => ?_
      have h1 := (Ent.ok_blk (T.ok x hx) k hb).1
      have h2 := (Ent.ok_blk (S.ok y hy) k he.symm).2
      omega

/-- New blocks, one of them owned from now on. -/
theorem Sep.add {w0 w w' : World} {L : List Ent} {x : Ent} (S : Sep w0 L w) (h : Below w.heap.size w w') (hx : x.ok w.heap.size w') : Sep w0 (x :: L) w' := by
  have S' := S.ext h
  refine ⟨S'.below, ?_, ?_⟩
  · intro y hy
    rcases List.mem_cons.1 hy with rfl | hy
    · exact Ent.ok_mono hx S.below.size
    · exact S'.ok y hy
  · refine List.pairwise_cons.2 ⟨fun y hy => ?_, S'.apart⟩
    cases hb : blk x.v with
    | none => exact .inl rfl
    | some k =>
      refine .inr fun he => ?_
      have h1 := (Ent.ok_blk hx k hb).1
      have h2 := (Ent.ok_blk (S.ok y hy) k he.symm).2
      omega

/-- A part of what is owned. -/
theorem Sep.sub {w0 w : World} {L L' : List Ent} (S : Sep w0 L w) (h : L'.Sublist L) : Sep w0 L' w :=
  ⟨S.below, fun x hx => S.ok x (h.subset hx), S.apart.sublist h⟩

theorem apart_symm {x y : Ent} (h : blk x.v = none ∨ blk x.v ≠ blk y.v) : blk y.v = none ∨ blk y.v ≠ blk x.v := by
  rcases h with h | h
  · cases hy : blk y.v with
    | none => exact .inl rfl
    | some k => exact .inr (by rw [h]; simp)
  · exact .inr (Ne.symm h)

/-- In another order. -/
theorem Sep.perm {w0 w : World} {L L' : List Ent} (S : Sep w0 L w) (h : L.Perm L') : Sep w0 L' w :=
  ⟨S.below, fun x hx => S.ok x (h.mem_iff.2 hx), (h.pairwise_iff (fun hxy => apart_symm hxy)).1 S.apart⟩

theorem Sep.swap {w0 w : World} {x y : Ent} {L : List Ent} (S : Sep w0 (x :: y :: L) w) : Sep w0 (y :: x :: L) w := S.perm (List.Perm.swap y x L)

/-- The first of the owned things has turned (it may have moved to a new block). -/
theorem Sep.upd {w0 w w' : World} {L : List Ent} {x y : Ent} (S : Sep w0 (x :: L) w) (h : w.grownBy w' (blk x.v)) (hy : y.ok w0.heap.size w')
    (hm : ∀ k, blk y.v = some k → blk x.v = some k ∨ w.heap.size ≤ k) : Sep w0 (y :: L) w' := by
  have hap := List.pairwise_cons.1 S.apart
  have keep : ∀ z ∈ L, ∀ k, blk z.v = some k → w'.heap[k]? = w.heap[k]? := fun z hz k hk => by
    have h2 := (Ent.ok_blk (S.ok z (List.mem_cons_of_mem _ hz)) k hk).2
    refine h.block k h2 fun he => ?_
    rcases hap.1 z hz with h0 | h0
    · rw [h0] at he; cases he
    · exact h0 (by rw [hk]; exact he.symm)
  refine ⟨S.below.grown h S.below.size fun k hk => (Ent.ok_blk (S.ok x List.mem_cons_self) k hk).1, ?_, ?_⟩
  · intro z hz
    rcases List.mem_cons.1 hz with rfl | hz
    · exact hy
    · exact Ent.ok_kept (S.ok z (List.mem_cons_of_mem _ hz)) (keep z hz)
  · refine List.pairwise_cons.2 ⟨fun z hz => ?_, hap.2⟩
    cases hb : blk y.v with
    | none => exact .inl rfl
    | some k =>
      refine .inr fun he => ?_
      rcases hm k hb with h1 | h1
      · rcases hap.1 z hz with h0 | h0
        · rw [h0] at h1; cases h1
        · exact h0 (by rw [h1]; exact he)
      · have h2 := (Ent.ok_blk (S.ok z (List.mem_cons_of_mem _ hz)) k he.symm).2
        omega

/-! ### What is read -/
theorem Rd.kept {w w' : World} {sz n : Nat} {v : Value} {cs : List Value} (h : Rd w sz v n cs) (hb : ∀ k, blk v = some k → k < w.heap.size → w'.heap[k]? = w.heap[k]?) : Rd w' sz v n cs := by
  refine ⟨h.1, h.2.1, ?_⟩
  rcases h.2.2 with hn | ⟨b, o, c, hv, h1, h2, hc⟩
  · exact .inl hn
  · refine .inr ⟨b, o, c, hv, h1, h2, fun j u hu => ?_⟩
    have := hc j u hu
    have hlt := World.block_lt_of_cell? w _ this
    rw [World.cell?_of_block (w := w) (a := ⟨b, o + j, none⟩) (hb b (by rw [hv]; rfl) hlt)]
    exact this

theorem Sep.rd {w0 w : World} {L : List Ent} (S : Sep w0 L w) {sz n : Nat} {v : Value} {cs : List Value} (h : Rd w0 sz v n cs) : Rd w sz v n cs :=
  h.kept fun k _ hk => S.below.block k hk

theorem Sep.ints {w0 w : World} {L : List Ent} (S : Sep w0 L w) {v : Value} {xs : List Int} (h : Ints w0 v xs) : Ints w v xs := ⟨S.rd h.1, h.2⟩

theorem Ent.rd {B : Nat} {w : World} {v : Value} {e sz n : Nat} {cs : List Value} (h : Ent.ok B w ⟨false, v, e, sz, n, cs⟩) : Rd w sz v n cs := by
  obtain ⟨h1, h2⟩ := h
  dsimp only at h1 h2
  refine ⟨h1.1, h2, ?_⟩
  rcases h1.2 with ⟨hv, hn⟩ | ⟨g, cap, cur, hv, hB1, hg, hnc, hcm, hcs, ht⟩
  · exact .inl ⟨hn, none, 0, hv, fun _ => rfl⟩
  · refine .inr ⟨g, 0, cap, hv, hnc, hcm, fun j u hu => ?_⟩
    rw [Nat.zero_add, cell_of_row w g j cur e (0, 0) hg]
    have hu' := hu
    rw [← ht, List.getElem?_take] at hu'
    split at hu'
    · simpa using hu'
    · cases hu'

/-- At the address A lie the cells us. -/
def Adr (w : World) (A : Value) (us : List Value) : Prop :=
  ∃ b o, A = .pointer (some ⟨b, o, none⟩) ∧ ∀ j u, us[j]? = some u → w.cell? ⟨b, o + j, none⟩ = some u

theorem Rd.adr {w : World} {sz n : Nat} {v : Value} {cs : List Value} (h : Rd w sz v n cs) (i : Nat) (hi : i < n) : Adr w (elem v (i * sz)) ((cs.drop (i * sz)).take sz) := by
  rcases h.2.2 with ⟨hn, _⟩ | ⟨b, o, c, rfl, h1, h2, hc⟩
  · omega
  · refine ⟨b, o + i * sz, by simp [elem, Addr.add], fun j u hu => ?_⟩
    rw [List.getElem?_take] at hu
    split at hu
    · rw [List.getElem?_drop] at hu
      rw [Nat.add_assoc]
      exact hc _ _ hu
    · cases hu

/-- The row or the box of an owned thing that is not empty. -/
theorem Ent.form {B : Nat} {w : World} {x : Ent} (h : x.ok B w) (hne : 0 < x.cs.length) :
    ∃ g cur, blk x.v = some g ∧ B ≤ g ∧ w.heap[g]? = some (.cells cur x.e (0, 0)) ∧ cur.toList.take x.cs.length = x.cs ∧ ∀ k, elem x.v k = .pointer (some ⟨g, k, none⟩) := by
  unfold Ent.ok at h
  split at h
  · obtain ⟨g, hv, hB, hg⟩ := h
    exact ⟨g, _, by rw [hv]; rfl, hB, hg, by simp, fun k => by rw [hv]; simp [elem, Addr.add_lit]⟩
  · obtain ⟨h1, _⟩ := h
    rcases h1.2 with ⟨_, hn⟩ | ⟨g, cap, cur, hv, hB, hg, hnc, hcm, hcs, ht⟩
    · have := h1.1; rw [hn] at this; simp at this; rw [this] at hne; simp at hne
    · exact ⟨g, cur, by rw [hv]; rfl, hB, hg, by rw [h1.1]; exact ht, fun k => by rw [hv]; simp [elem, Addr.add_lit]⟩

theorem Ent.adr {B : Nat} {w : World} {x : Ent} (h : x.ok B w) (k m : Nat) (hk : k < x.cs.length) : Adr w (elem x.v k) ((x.cs.drop k).take m) := by
  obtain ⟨g, cur, _, _, hg, ht, he⟩ := Ent.form h (by omega)
  refine ⟨g, k, he k, fun j u hu => ?_⟩
  rw [cell_of_row w g (k + j) cur x.e (0, 0) hg]
  rw [List.getElem?_take] at hu
  split at hu
  · rw [List.getElem?_drop, ← ht, List.getElem?_take] at hu
    split at hu
    · simpa using hu
    · cases hu
  · cases hu

/-- The cells us laid over a list at place k. -/
def over (cs : List Value) (k : Nat) (us : List Value) : List Value := cs.take k ++ us ++ cs.drop (k + us.length)

theorem over_length (cs : List Value) (k : Nat) (us : List Value) (h : k + us.length ≤ cs.length) : (over cs k us).length = cs.length := by
  simp [over]; omega

theorem over_one (cs : List Value) (k : Nat) (u : Value) (h : k < cs.length) : over cs k [u] = cs.set k u := by
  rw [over, List.set_eq_take_append_cons_drop, if_pos h]
  simp

theorem take_over (cur : List Value) (k n : Nat) (us : List Value) (h : k + us.length ≤ n) (hn : n ≤ cur.length) : (over cur k us).take n = over (cur.take n) k us := by
  apply List.ext_getElem?
  intro j
  simp only [over, List.getElem?_take, List.append_assoc, List.getElem?_append, List.length_take, List.getElem?_drop]
  by_cases hj : j < n
  · simp only [hj, if_true]
    by_cases h1 : j < k
    · simp [h1, show j < min k cur.length by omega, show j < min k (min n cur.length) by omega]
    · have e1 : min k cur.length = k := by omega
      have e2 : min k (min n cur.length) = k := by omega
      rw [e1, e2]
      simp only [h1, if_false]
      by_cases h2 : j - k < us.length
      · simp [h2]
      · simp only [h2, if_false]
        rw [if_pos (by omega)]
  · simp only [hj, if_false]
    have e2 : min k (min n cur.length) = k := by omega
    rw [e2, if_neg (by omega), if_neg (by omega), if_neg (by omega)]

/-- An owned thing with other cells. -/
def Ent.with (x : Ent) (cs : List Value) : Ent := { x with cs := cs }

/-- A store into an owned thing. -/
theorem Ent.store {P : Program} {B : Nat} {w : World} {x : Ent} (h : x.ok B w) (k : Nat) (us : List Value) (h1 : ∀ u ∈ us, u.oneCell' = true) (hk : k + us.length ≤ x.cs.length) (hu : 0 < us.length) :
    ∃ b w', elem x.v k = .pointer (some ⟨b, k, none⟩) ∧ (storeCells ⟨b, k, none⟩ us).run P w = .ok () w' ∧ w.grownBy w' (blk x.v) ∧ (x.with (over x.cs k us)).ok B w' := by
  obtain ⟨g, cur, hb, hB, hg, ht, he⟩ := Ent.form h (by omega)
  have hcl : x.cs.length ≤ cur.size := by
    have := congrArg List.length ht
    simp at this; omega
  have hst := run_storeCells_at P g k x.e us 0 cur w hg (by omega) h1
  simp only [Nat.add_zero] at hst
  refine ⟨g, _, he k, hst, ⟨rfl, rfl, rfl, by simp, fun j _ hj => setRow_other w g j _ (fun e => hj (by rw [hb, e]))⟩, ?_⟩
  have hrow := setRow_heap w g cur (cur.toList.take k ++ us ++ cur.toList.drop (k + us.length)).toArray x.e (0, 0) hg
  unfold Ent.ok at h ⊢
  by_cases hbx : x.box = true
  · simp only [Ent.with, hbx, if_true] at h ⊢
    obtain ⟨g', hv, hB', hg'⟩ := h
    have : g' = g := by rw [hv] at hb; simpa [blk] using hb
    subst this
    rw [hg] at hg'
    simp only [Option.some.injEq, Obj.cells.injEq, and_true] at hg'
    refine ⟨g', hv, hB', ?_⟩
    rw [hrow]
    simp [over, hg']
  · simp only [Ent.with, hbx] at h ⊢
    obtain ⟨hr, hn⟩ := h
    refine ⟨⟨?_, ?_⟩, hn⟩
    · rw [over_length _ _ _ hk]; exact hr.1
    · rcases hr.2 with ⟨hv, hn0⟩ | ⟨g', cap, cur', hv, hB', hg', hnc, hcm, hcs, ht'⟩
      · rw [hv] at hb; cases hb
      · have : g' = g := by rw [hv] at hb; simpa [blk] using hb
        subst this
        rw [hg] at hg'
        simp only [Option.some.injEq, Obj.cells.injEq, and_true] at hg'
        subst hg'
        refine .inr ⟨g', cap, _, hv, hB', hrow, hnc, hcm, ?_, ?_⟩
        · simp only [List.size_toArray, List.length_append, List.length_take, List.length_drop, Array.length_toList]
          rw [← hcs]; omega
        · have hl := hr.1
          show ((over cur.toList k us).take (x.n * x.sz)) = over x.cs k us
          rw [take_over _ _ _ _ (by omega) (by rw [Array.length_toList, ← hl]; exact hcl), ht']

theorem Below.of_grown_none {w w' : World} (h : w.grownBy w' none) : Below w.heap.size w w' :=
  ⟨h.os, h.tape, h.output, h.size, fun k hk => h.block k hk (by simp)⟩

/-- One of the owned things, and what becomes of the list when it turns. -/
structure Acc (w0 w : World) (x : Ent) (F : Ent → List Ent) : Prop where
  ok : x.ok w0.heap.size w
  size : w0.heap.size ≤ w.heap.size
  upd : ∀ w' y, w.grownBy w' (blk x.v) → y.ok w0.heap.size w' → (∀ k, blk y.v = some k → blk x.v = some k ∨ w.heap.size ≤ k) → Sep w0 (F y) w'

theorem Sep.a0 {w0 w : World} {L : List Ent} {x : Ent} (S : Sep w0 (x :: L) w) : Acc w0 w x (fun y => y :: L) :=
  ⟨S.ok x (by simp), S.below.size, fun _ _ h1 h2 h3 => S.upd h1 h2 h3⟩
theorem Sep.a1 {w0 w : World} {L : List Ent} {p x : Ent} (S : Sep w0 (p :: x :: L) w) : Acc w0 w x (fun y => p :: y :: L) :=
  ⟨S.ok x (by simp), S.below.size, fun _ _ h1 h2 h3 => (S.swap.upd h1 h2 h3).swap⟩
theorem Sep.a2 {w0 w : World} {L : List Ent} {p q x : Ent} (S : Sep w0 (p :: q :: x :: L) w) : Acc w0 w x (fun y => p :: q :: y :: L) :=
  have pm (y : Ent) : (p :: q :: y :: L).Perm (y :: p :: q :: L) := ((List.Perm.swap y q L).cons p).trans (List.Perm.swap y p (q :: L))
  ⟨S.ok x (by simp), S.below.size, fun _ y h1 h2 h3 => ((S.perm (pm x)).upd h1 h2 h3).perm (pm y).symm⟩
theorem Sep.a3 {w0 w : World} {L : List Ent} {p q r x : Ent} (S : Sep w0 (p :: q :: r :: x :: L) w) : Acc w0 w x (fun y => p :: q :: r :: y :: L) :=
  have pm (y : Ent) : (p :: q :: r :: y :: L).Perm (y :: p :: q :: r :: L) := (((List.Perm.swap y r L).cons q).cons p).trans (((List.Perm.swap y q (r :: L)).cons p).trans (List.Perm.swap y p (q :: r :: L)))
  ⟨S.ok x (by simp), S.below.size, fun _ y h1 h2 h3 => ((S.perm (pm x)).upd h1 h2 h3).perm (pm y).symm⟩

/-- The last owned thing is let go. -/
theorem Sep.drop0 {w0 w : World} {L : List Ent} {x : Ent} (S : Sep w0 (x :: L) w) : Sep w0 L w := S.sub (List.sublist_cons_self _ _)
theorem Sep.drop1 {w0 w : World} {L : List Ent} {p x : Ent} (S : Sep w0 (p :: x :: L) w) : Sep w0 (p :: L) w := S.sub ((List.sublist_cons_self _ _).cons_cons p)
theorem Sep.letgo {w0 w : World} {L : List Ent} (S : Sep w0 L w) : Sep w0 [] w := S.sub (List.nil_sublist _)

end Go.Proofs.Ytjbedonncjppfaa
