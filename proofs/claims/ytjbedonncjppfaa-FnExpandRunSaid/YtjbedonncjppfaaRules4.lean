/-
  Plain operations in a region that draws its order and only reads.
-/
import Derived.Test.YtjbedonncjppfaaRules3
import Derived.StillTailTactics
namespace Go.Proofs.Ytjbedonncjppfaa
set_option linter.unusedVariables false
set_option linter.unusedSimpArgs false
set_option linter.unnecessarySimpa false
open Go.RowKit

section
variable {P : Program} {ops : Array Oper} {a : Act} {w : World} {rest : List Oper} {o : Oper} {C : World → Prop} {Qq : Act → Prop} {x y c : Operand} {t1 t2 : TypeId} {m n : Int} {b : Bool} {v : Value}

theorem run_move (hop : o.op = .move x) : (execOp a.eval o).run P w = .ok (.value (a.eval x)) w := by unfold execOp; simp [hop]
theorem run_assign (hop : o.op = .assign x) : (execOp a.eval o).run P w = .ok (.value (a.eval x)) w := by unfold execOp; simp [hop]
theorem run_pick (hop : o.op = .pick c x y) (hc : a.eval c = .bool b) : (execOp a.eval o).run P w = .ok (.value (if b then a.eval x else a.eval y)) w := by
  unfold execOp; simp [hop, hc, asBool]
theorem run_not (hop : o.op = .unOp .not t1 x) (hx : a.eval x = .bool b) : (execOp a.eval o).run P w = .ok (.value (.bool (!b))) w := by
  unfold execOp; simp [hop, hx, Op.unary]

theorem run_lss (hop : o.op = .binOp .lss t1 x y t2) (hx : a.eval x = .int .i64 m) (hy : a.eval y = .int .i64 n) : (execOp a.eval o).run P w = .ok (.value (.bool (decide (m < n)))) w := by
  unfold execOp; simp [hop, hx, hy, eqGuard, binOp, Op.intCmp]
theorem run_leq (hop : o.op = .binOp .leq t1 x y t2) (hx : a.eval x = .int .i64 m) (hy : a.eval y = .int .i64 n) : (execOp a.eval o).run P w = .ok (.value (.bool (decide (m ≤ n)))) w := by
  unfold execOp; simp [hop, hx, hy, eqGuard, binOp, Op.intCmp]
theorem run_gtr (hop : o.op = .binOp .gtr t1 x y t2) (hx : a.eval x = .int .i64 m) (hy : a.eval y = .int .i64 n) : (execOp a.eval o).run P w = .ok (.value (.bool (decide (n < m)))) w := by
  unfold execOp; simp [hop, hx, hy, eqGuard, binOp, Op.intCmp]
theorem run_geq (hop : o.op = .binOp .geq t1 x y t2) (hx : a.eval x = .int .i64 m) (hy : a.eval y = .int .i64 n) : (execOp a.eval o).run P w = .ok (.value (.bool (decide (n ≤ m)))) w := by
  unfold execOp; simp [hop, hx, hy, eqGuard, binOp, Op.intCmp]
theorem run_eql (hop : o.op = .binOp .eql t1 x y t2) (hx : a.eval x = .int .i64 m) (hy : a.eval y = .int .i64 n) : (execOp a.eval o).run P w = .ok (.value (.bool (m == n))) w := by
  unfold execOp; simp [hop, hx, hy, eqGuard, binOp, Op.intCmp]
theorem run_neq (hop : o.op = .binOp .neq t1 x y t2) (hx : a.eval x = .int .i64 m) (hy : a.eval y = .int .i64 n) : (execOp a.eval o).run P w = .ok (.value (.bool (m != n))) w := by
  unfold execOp; simp [hop, hx, hy, eqGuard, binOp, Op.intCmp]
theorem run_add (hop : o.op = .binOp .add t1 x y t2) (hx : a.eval x = .int .i64 m) (hy : a.eval y = .int .i64 n) (hb : -9223372036854775808 ≤ m + n ∧ m + n ≤ 9223372036854775807) : (execOp a.eval o).run P w = .ok (.value (.int .i64 (m + n))) w := by
  have h := IntWalk.i64_in _ hb
  unfold execOp; simp [hop, hx, hy, eqGuard, binOp, Op.intArith, h]
theorem run_sub (hop : o.op = .binOp .sub t1 x y t2) (hx : a.eval x = .int .i64 m) (hy : a.eval y = .int .i64 n) (hb : -9223372036854775808 ≤ m - n ∧ m - n ≤ 9223372036854775807) : (execOp a.eval o).run P w = .ok (.value (.int .i64 (m - n))) w := by
  have h := IntWalk.i64_in _ hb
  unfold execOp; simp [hop, hx, hy, eqGuard, binOp, Op.intArith, h]
theorem run_mul (hop : o.op = .binOp .mul t1 x y t2) (hx : a.eval x = .int .i64 m) (hy : a.eval y = .int .i64 n) (hb : -9223372036854775808 ≤ m * n ∧ m * n ≤ 9223372036854775807) : (execOp a.eval o).run P w = .ok (.value (.int .i64 (m * n))) w := by
  have h := IntWalk.i64_in _ hb
  unfold execOp; simp [hop, hx, hy, eqGuard, binOp, Op.intArith, h]

theorem run_min {T : Array TypeId} (hop : o.op = .call { callee := .builtin .min, args := #[x, y], argTypes := T }) (hx : a.eval x = .int .i64 m) (hy : a.eval y = .int .i64 n) : (execOp a.eval o).run P w = .ok (.value (.int .i64 (min m n))) w := by
  have h : (if n < m then n else m) = min m n := by omega
  unfold execOp
  simp [hop, hx, hy, resolve, invoke, builtin, Builtin.min_, Builtin.min2, h]
theorem run_max {T : Array TypeId} (hop : o.op = .call { callee := .builtin .max, args := #[x, y], argTypes := T }) (hx : a.eval x = .int .i64 m) (hy : a.eval y = .int .i64 n) : (execOp a.eval o).run P w = .ok (.value (.int .i64 (max m n))) w := by
  have h : (if m < n then n else m) = max m n := by omega
  unfold execOp
  simp [hop, hx, hy, resolve, invoke, builtin, Builtin.max_, Builtin.max2, h]

variable (hw : Region.wanted o (yielded ops a.tmps) = true)
include hw
theorem r_min {Q : Exit → Act → World → Prop} {T : Array TypeId} (hop : o.op = .call { callee := .builtin .min, args := #[x, y], argTypes := T }) (hx : a.eval x = .int .i64 m) (hy : a.eval y = .int .i64 n) (h : wpList P ops Q rest (a.put o.dst (.int .i64 (min m n))) w) : wpList P ops Q (o :: rest) a w := r_val hw (run_min hop hx hy) h
theorem r_max {Q : Exit → Act → World → Prop} {T : Array TypeId} (hop : o.op = .call { callee := .builtin .max, args := #[x, y], argTypes := T }) (hx : a.eval x = .int .i64 m) (hy : a.eval y = .int .i64 n) (h : wpList P ops Q rest (a.put o.dst (.int .i64 (max m n))) w) : wpList P ops Q (o :: rest) a w := r_val hw (run_max hop hx hy) h
theorem q_min {T : Array TypeId} (hop : o.op = .call { callee := .builtin .min, args := #[x, y], argTypes := T }) (hx : a.eval x = .int .i64 m) (hy : a.eval y = .int .i64 n) (h : wpQuiet P ops C Qq rest (a.put o.dst (.int .i64 (min m n)))) : wpQuiet P ops C Qq (o :: rest) a := q_val hw (fun _ _ => run_min hop hx hy) h
theorem q_max {T : Array TypeId} (hop : o.op = .call { callee := .builtin .max, args := #[x, y], argTypes := T }) (hx : a.eval x = .int .i64 m) (hy : a.eval y = .int .i64 n) (h : wpQuiet P ops C Qq rest (a.put o.dst (.int .i64 (max m n)))) : wpQuiet P ops C Qq (o :: rest) a := q_val hw (fun _ _ => run_max hop hx hy) h
theorem q_move (hop : o.op = .move x) (hv : a.eval x = v) (h : wpQuiet P ops C Qq rest (a.put o.dst v)) : wpQuiet P ops C Qq (o :: rest) a := q_val hw (fun _ _ => run_move hop) (hv ▸ h)
theorem q_assign (hop : o.op = .assign x) (hv : a.eval x = v) (h : wpQuiet P ops C Qq rest (a.put o.dst v)) : wpQuiet P ops C Qq (o :: rest) a := q_val hw (fun _ _ => run_assign hop) (hv ▸ h)
theorem q_pickT (hop : o.op = .pick c x y) (hc : a.eval c = .bool true) (hv : a.eval x = v) (h : wpQuiet P ops C Qq rest (a.put o.dst v)) : wpQuiet P ops C Qq (o :: rest) a := q_val hw (fun _ _ => run_pick hop hc) (by simpa [hv] using h)
theorem q_pickF (hop : o.op = .pick c x y) (hc : a.eval c = .bool false) (hv : a.eval y = v) (h : wpQuiet P ops C Qq rest (a.put o.dst v)) : wpQuiet P ops C Qq (o :: rest) a := q_val hw (fun _ _ => run_pick hop hc) (by simpa [hv] using h)
theorem q_not (hop : o.op = .unOp .not t1 x) (hx : a.eval x = .bool b) {b' : Bool} (hb : (!b) = b') (h : wpQuiet P ops C Qq rest (a.put o.dst (.bool b'))) : wpQuiet P ops C Qq (o :: rest) a := q_val hw (fun _ _ => run_not hop hx) (hb ▸ h)
theorem q_lss (hop : o.op = .binOp .lss t1 x y t2) (hx : a.eval x = .int .i64 m) (hy : a.eval y = .int .i64 n) (hb : decide (m < n) = b) (h : wpQuiet P ops C Qq rest (a.put o.dst (.bool b))) : wpQuiet P ops C Qq (o :: rest) a := q_val hw (fun _ _ => run_lss hop hx hy) (hb ▸ h)
theorem q_leq (hop : o.op = .binOp .leq t1 x y t2) (hx : a.eval x = .int .i64 m) (hy : a.eval y = .int .i64 n) (hb : decide (m ≤ n) = b) (h : wpQuiet P ops C Qq rest (a.put o.dst (.bool b))) : wpQuiet P ops C Qq (o :: rest) a := q_val hw (fun _ _ => run_leq hop hx hy) (hb ▸ h)
theorem q_gtr (hop : o.op = .binOp .gtr t1 x y t2) (hx : a.eval x = .int .i64 m) (hy : a.eval y = .int .i64 n) (hb : decide (n < m) = b) (h : wpQuiet P ops C Qq rest (a.put o.dst (.bool b))) : wpQuiet P ops C Qq (o :: rest) a := q_val hw (fun _ _ => run_gtr hop hx hy) (hb ▸ h)
theorem q_geq (hop : o.op = .binOp .geq t1 x y t2) (hx : a.eval x = .int .i64 m) (hy : a.eval y = .int .i64 n) (hb : decide (n ≤ m) = b) (h : wpQuiet P ops C Qq rest (a.put o.dst (.bool b))) : wpQuiet P ops C Qq (o :: rest) a := q_val hw (fun _ _ => run_geq hop hx hy) (hb ▸ h)
theorem q_eql (hop : o.op = .binOp .eql t1 x y t2) (hx : a.eval x = .int .i64 m) (hy : a.eval y = .int .i64 n) (hb : (m == n) = b) (h : wpQuiet P ops C Qq rest (a.put o.dst (.bool b))) : wpQuiet P ops C Qq (o :: rest) a := q_val hw (fun _ _ => run_eql hop hx hy) (hb ▸ h)
theorem q_neq (hop : o.op = .binOp .neq t1 x y t2) (hx : a.eval x = .int .i64 m) (hy : a.eval y = .int .i64 n) (hb : (m != n) = b) (h : wpQuiet P ops C Qq rest (a.put o.dst (.bool b))) : wpQuiet P ops C Qq (o :: rest) a := q_val hw (fun _ _ => run_neq hop hx hy) (hb ▸ h)
theorem q_add (hop : o.op = .binOp .add t1 x y t2) (hx : a.eval x = .int .i64 m) (hy : a.eval y = .int .i64 n) (hb : -9223372036854775808 ≤ m + n ∧ m + n ≤ 9223372036854775807) (h : wpQuiet P ops C Qq rest (a.put o.dst (.int .i64 (m + n)))) : wpQuiet P ops C Qq (o :: rest) a := q_val hw (fun _ _ => run_add hop hx hy hb) h
theorem q_sub (hop : o.op = .binOp .sub t1 x y t2) (hx : a.eval x = .int .i64 m) (hy : a.eval y = .int .i64 n) (hb : -9223372036854775808 ≤ m - n ∧ m - n ≤ 9223372036854775807) (h : wpQuiet P ops C Qq rest (a.put o.dst (.int .i64 (m - n)))) : wpQuiet P ops C Qq (o :: rest) a := q_val hw (fun _ _ => run_sub hop hx hy hb) h
theorem q_mul (hop : o.op = .binOp .mul t1 x y t2) (hx : a.eval x = .int .i64 m) (hy : a.eval y = .int .i64 n) (hb : -9223372036854775808 ≤ m * n ∧ m * n ≤ 9223372036854775807) (h : wpQuiet P ops C Qq rest (a.put o.dst (.int .i64 (m * n)))) : wpQuiet P ops C Qq (o :: rest) a := q_val hw (fun _ _ => run_mul hop hx hy hb) h
end

/-! ### A region that draws its order: all but the last operations read; the last ones have one order -/
section
variable {P : Program} {ops : Array Oper} {w : World}

theorem still_of_quiet {Qq : Act → Prop} : ∀ {l : List Oper} {a : Act}, wpQuiet P ops (fun w' => w' = w) Qq l a → wpStill P ops w Qq l a
  | [], _, h => h
  | o :: l, a, h => by
    unfold wpQuiet at h
    unfold wpStill
    by_cases hw : Region.wanted o (yielded ops a.tmps) = true
    · rw [if_pos hw] at h ⊢
      obtain ⟨v, h1, h2⟩ := h
      have h1 := h1 w rfl
      have h2 := still_of_quiet h2
      unfold Oper.quietAt at h1
      unfold Oper.still
      generalize (execOp a.eval o).run P w = r at *
      cases r with
      | ok n w' =>
        cases n <;> simp only [Oper.quietUpon] at h1 <;> simp only [Oper.stillUpon]
        case value u => obtain ⟨e1, e2⟩ := h1; subst e2; exact ⟨e1, h2⟩
        case skip => obtain ⟨e1, e2⟩ := h1; subst e2; exact ⟨e1, h2⟩
        case enter f args => obtain ⟨e1, hc⟩ := h1; exact ⟨e1, v, hc, h2⟩
      | halt x w' => simp only [Oper.quietUpon] at h1
    · rw [if_neg hw] at h ⊢
      exact still_of_quiet h

theorem wp_region_tail {id : Nat} {Q : Exit → Act → World → Prop} {a : Act} {w : World} {l : List Oper} (n : Nat) (hm : P.follows .mixedOrders = true) (hB : Region.lexTailB .any l.toArray n = true)
    (h : wpQuiet P l.toArray (fun w' => w' = w.drew) (fun a' => wpList P l.toArray Q (l.drop n) a' w.drew) (l.take n) a) : (Code.region id l.toArray true).wp P Q a w :=
  wp_region_still_tail n hm hB (still_of_quiet h)

variable {a : Act} {rest : List Oper} {o : Oper} {C : World → Prop} {Qq : Act → Prop}

theorem q_loadIntC (hw : Region.wanted o (yielded ops a.tmps) = true) {E : TypeId} {x : Operand} {v : Value} {xs : List Int} {i : Int} (hC : ∀ w', C w' → Below w.heap.size w w') (hop : o.op = .load E x)
    (hE : P.underlying E = some (.int .i64)) (hx : a.eval x = elem v (i.toNat * 1)) (R : ∀ w', Below w.heap.size w w' → Rd w' 1 v xs.length (xs.map (Value.int .i64))) (h0 : 0 ≤ i) (h1 : i < xs.length)
    (h : wpQuiet P ops C Qq rest (a.put o.dst (.int .i64 (gi xs i)))) : wpQuiet P ops C Qq (o :: rest) a :=
  q_loadInt hw hop hE hx (fun w' hc => R w' (hC w' hc)) h0 h1 h

theorem q_load1C (hw : Region.wanted o (yielded ops a.tmps) = true) {E : TypeId} {x : Operand} {A u : Value} {us : List Value} (hC : ∀ w', C w' → Below w.heap.size w w') (hop : o.op = .load E x)
    (hE : P.underlying E = some (.int .i64)) (hx : a.eval x = A) (R : ∀ w', Below w.heap.size w w' → Adr w' A us) (hu : us[0]? = some u)
    (h : wpQuiet P ops C Qq rest (a.put o.dst u)) : wpQuiet P ops C Qq (o :: rest) a :=
  q_load1 hw hop hE hx (fun w' hc => R w' (hC w' hc)) hu h

theorem q_loadAggC (hw : Region.wanted o (yielded ops a.tmps) = true) {E : TypeId} {x : Operand} {A z : Value} {us : List Value} {sz : Nat} (hC : ∀ w', C w' → Below w.heap.size w w') (hop : o.op = .load E x)
    (hE : StT P E z sz) (hx : a.eval x = A) (R : ∀ w', Below w.heap.size w w' → Adr w' A us) (hu : us.length = sz)
    (h : wpQuiet P ops C Qq rest (a.put o.dst (.agg us.toArray))) : wpQuiet P ops C Qq (o :: rest) a :=
  q_val hw (fun w' hc => run_loadAgg hop hE hx (R w' (hC w' hc)) hu) h

/-- Two boxes, laid open. -/
theorem Sep.two {w0 : World} {L : List Ent} {E E' : TypeId} {p q : Value} {cs ds : List Value} (S : Sep w0 (bent E p cs :: bent E' q ds :: L) w) :
    ∃ b c, elem p 0 = .pointer (some ⟨b, 0, none⟩) ∧ elem q 0 = .pointer (some ⟨c, 0, none⟩) ∧ b ≠ c ∧ c ≠ b ∧ w0.heap.size ≤ c ∧ w.heap[b]? = some (.cells cs.toArray E (0, 0)) ∧ w.heap[c]? = some (.cells ds.toArray E' (0, 0)) ∧
      (∀ j u, cs[j]? = some u → w.cell? ⟨b, j, none⟩ = some u) ∧ (∀ j u, ds[j]? = some u → w.cell? ⟨c, j, none⟩ = some u) ∧ ∀ j, w.frozen? ⟨c, j, none⟩ = false := by
  have h1 := S.ok _ List.mem_cons_self
  have h2 := S.ok _ (List.mem_cons_of_mem _ List.mem_cons_self)
  have h3 := (List.pairwise_cons.1 S.apart).1 _ List.mem_cons_self
  simp only [bent, Ent.ok, if_true] at h1 h2 h3
  obtain ⟨b, rfl, hb1, hb2⟩ := h1
  obtain ⟨c, rfl, hc1, hc2⟩ := h2
  have hne : b ≠ c := by
    rcases h3 with h3 | h3
    · cases h3
    · intro e; exact h3 (by rw [e])
  refine ⟨b, c, elem_zero b, elem_zero c, hne, Ne.symm hne, hc1, hb2, hc2, fun j u hu => ?_, fun j u hu => ?_, fun j => frozen_of_row w c j _ _ hc2⟩
  · rw [cell_of_row w b j _ _ _ hb2]; simpa using hu
  · rw [cell_of_row w c j _ _ _ hc2]; simpa using hu

/-- Three cells stored into a box of three. -/
theorem set3 {B : Nat} {w0 : World} {E c : Nat} {a0 a1 a2 : Value} (h : w.heap[c]? = some (.cells [a0, a1, a2].toArray E (0, 0))) (hb : Below B w0 w) (hc : B ≤ c) (x y z : Value) :
    Adr (((w.setCell ⟨c, 0, none⟩ x).setCell ⟨c, 1, none⟩ y).setCell ⟨c, 2, none⟩ z).drew (elem (.pointer (some ⟨c, 0, none⟩)) 0) [x, y, z] ∧ Below B w0 (((w.setCell ⟨c, 0, none⟩ x).setCell ⟨c, 1, none⟩ y).setCell ⟨c, 2, none⟩ z).drew := by
  refine ⟨⟨c, 0, elem_zero c, fun j u hu => ?_⟩, (((hb.setCell (p := ⟨c, 0, none⟩) hc _).setCell (p := ⟨c, 1, none⟩) hc _).setCell (p := ⟨c, 2, none⟩) hc _).drew⟩
  have h1 := heap_setCell_same _ c 2 _ _ z (heap_setCell_same _ c 1 _ _ y (heap_setCell_same w c 0 _ _ x h))
  rw [Nat.zero_add]
  show ((((w.setCell ⟨c, 0, none⟩ x).setCell ⟨c, 1, none⟩ y).setCell ⟨c, 2, none⟩ z)).cell? _ = _
  rw [cell_of_row _ c j _ _ (0, 0) h1]
  match j, hu with
  | 0, hu => simpa using hu
  | 1, hu => simpa using hu
  | 2, hu => simpa using hu

theorem drew_below (w : World) : ∀ w', w' = w.drew → Below w.heap.size w w' := by rintro _ rfl; exact (Below.refl _ _).drew
theorem same_below (w : World) : ∀ w', Below w.heap.size w w' → Below w.heap.size w w' := fun _ h => h
theorem Sep.drew {w0 : World} {L : List Ent} (S : Sep w0 L w) : Sep w0 L w.drew := S.ext (Below.refl _ _).drew
end
end Go.Proofs.Ytjbedonncjppfaa
