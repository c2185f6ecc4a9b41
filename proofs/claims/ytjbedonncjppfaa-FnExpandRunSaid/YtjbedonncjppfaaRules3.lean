/-
  More steps: one element appended; regions that draw their order and only read; results in boxes.
-/
import Derived.Test.YtjbedonncjppfaaRules2
namespace Go.Proofs.Ytjbedonncjppfaa
set_option linter.unusedVariables false
set_option linter.unusedSimpArgs false
set_option linter.unnecessarySimpa false
open Go.RowKit

section
variable {P : Program} {ops : Array Oper} {Q : Exit → Act → World → Prop} {a : Act} {w w0 : World} {rest : List Oper} {o : Oper} {L : List Ent} {F : Ent → List Ent}

theorem Acc.ext {w1 : World} {x : Ent} (A : Acc w0 w x F) (hb : Below w.heap.size w w1) : Acc w0 w1 x F := by
  refine ⟨Ent.ok_kept A.ok fun k hk => hb.block k (Ent.ok_blk A.ok k hk).2, Nat.le_trans A.size hb.size, fun w' y hg hy hk => ?_⟩
  refine A.upd w' y ⟨hg.os.trans hb.os, hg.tape.trans hb.tape, hg.output.trans hb.output, Nat.le_trans hb.size hg.size, fun k h1 h2 => ?_⟩ hy fun k h1 => (hk k h1).imp id fun h2 => Nat.le_trans hb.size h2
  exact (hg.block k (Nat.lt_of_lt_of_le h1 hb.size) h2).trans (hb.block k h1)

theorem made_one (z : Value) : madeCells #[z] 1 = #[z] := Array.toList_inj.1 (by rw [toList_madeCells_one]; rfl)

/-- A literal of one element, appended. -/
theorem r_app1 {o2 : Oper} (hw : Region.wanted o (yielded ops a.tmps) = true) (hw2 : ∀ t, Region.wanted o2 (yielded ops (a.put o.dst t).tmps) = true) {T E : TypeId} {s x2 : Operand} {n sz bytes : Nat} {z v : Value} {cs : List Value} {cells : Array Value} {parts : Array (Nat × Operand)}
    (hop : o.op = .buildSlice T 1 parts) (hop2 : o2.op = .call { callee := .builtin .append, args := #[s, x2], argTypes := #[T, T] }) (hT : SlT P T E sz bytes z)
    (hf : Instr.fill (fun i => some (i * sz, sz)) (madeCells z.cells (1 * sz)) (parts.map fun (i, x) => (i, a.eval x)).toList = some cells) (hcs : cells.size = sz) (hsz : sz ≤ 16777216) (h1 : ∀ u ∈ cells.toList, u.oneCell' = true)
    (hs : ∀ t, (a.put o.dst t).eval s = v) (hx : ∀ t, (a.put o.dst t).eval x2 = t) (A : Acc w0 w ⟨false, v, E, sz, n, cs⟩ F) (hn : n + 1 ≤ 1099511627776)
    (h : ∀ t v' w', Sep w0 (F ⟨false, v', E, sz, n + 1, cs ++ cells.toList⟩) w' → wpList P ops Q rest ((a.put o.dst t).put o2.dst v') w') : wpList P ops Q (o :: o2 :: rest) a w := by
  obtain ⟨t, w1, hr, hb, hok⟩ := run_lit (P := P) (w := w) hop hT hf (by rw [hcs, Nat.one_mul]) (by rw [Nat.one_mul]; exact hsz) (by omega)
  refine r_valw hw hr ?_
  exact r_append (hw2 t) hop2 hT (hs t) (A.ext hb) (hx t) (Ent.rd hok) h1 hn fun v' w' S => h t v' w' S

theorem r_app1Int {o2 : Oper} (hw : Region.wanted o (yielded ops a.tmps) = true) (hw2 : ∀ t, Region.wanted o2 (yielded ops (a.put o.dst t).tmps) = true) {T E : TypeId} {s x x2 : Operand} {m : Int} {v : Value} {xs : List Int}
    (hop : o.op = .buildSlice T 1 #[(0, x)]) (hop2 : o2.op = .call { callee := .builtin .append, args := #[s, x2], argTypes := #[T, T] }) (hT : SlT P T E 1 8 (.int .i64 0))
    (hm : a.eval x = .int .i64 m) (hs : ∀ t, (a.put o.dst t).eval s = v) (hx : ∀ t, (a.put o.dst t).eval x2 = t) (A : Acc w0 w (ient E v xs) F) (hn : xs.length + 1 ≤ 1099511627776)
    (h : ∀ t v' w', Sep w0 (F (ient E v' (xs ++ [m]))) w' → wpList P ops Q rest ((a.put o.dst t).put o2.dst v') w') : wpList P ops Q (o :: o2 :: rest) a w := by
  refine r_app1 (cells := #[.int .i64 m]) hw hw2 hop hop2 hT (by simp [hm, Instr.fill, Value.cells, made_one]) rfl (by omega) (by simp [Value.oneCell']) hs hx A hn fun t v' w' S => h t v' w' ?_
  simpa [ient] using S

/-- An empty literal. -/
theorem r_lit0 (hw : Region.wanted o (yielded ops a.tmps) = true) {T E : TypeId} (hop : o.op = .buildSlice T 0 #[]) (hT : SlT P T E 1 8 (.int .i64 0)) (S : Sep w0 L w)
    (h : ∀ v w', Sep w0 (ient E v [] :: L) w' → wpList P ops Q rest (a.put o.dst v) w') : wpList P ops Q (o :: rest) a w := by
  obtain ⟨v, w1, hr, hb, hok⟩ := run_lit (P := P) (w := w) (cells := #[]) hop hT (by simp [Instr.fill, madeCells]) (by simp) (by simp) (by omega)
  exact r_valw hw hr (h v w1 (S.add hb (by simpa [ient] using hok)))

/-- A literal of ints. -/
theorem r_litInts (hw : Region.wanted o (yielded ops a.tmps) = true) {T E : TypeId} {n : Nat} {parts : Array (Nat × Operand)} {xs : List Int} (hop : o.op = .buildSlice T n parts) (hT : SlT P T E 1 8 (.int .i64 0))
    (hf : Instr.fill (fun i => some (i * 1, 1)) (madeCells (Value.cells (.int .i64 0)) (n * 1)) (parts.map fun (i, x) => (i, a.eval x)).toList = some (xs.map (Value.int .i64)).toArray) (hl : xs.length = n) (hn : n ≤ 16777216) (S : Sep w0 L w)
    (h : ∀ v w', Sep w0 (ient E v xs :: L) w' → wpList P ops Q rest (a.put o.dst v) w') : wpList P ops Q (o :: rest) a w := by
  obtain ⟨v, w1, hr, hb, hok⟩ := run_lit (P := P) (w := w) hop hT hf (by simp [hl]) (by omega) (by omega)
  exact r_valw hw hr (h v w1 (S.add hb (by simpa [ient, hl] using hok)))

/-- A part of a slice of ints. -/
theorem r_sliceInts (hw : Region.wanted o (yielded ops a.tmps) = true) {T E : TypeId} {x : Operand} {lo hi : Option Operand} {v : Value} {l h : Int} {xs : List Int} {wb : World}
    (hop : o.op = .slice T x lo hi none) (hT : SlT P T E 1 8 (.int .i64 0)) (hx : a.eval x = v)
    (hlo : (lo.map a.eval = none ∧ l = 0) ∨ ∃ k, lo.map a.eval = some (.int k l)) (hhi : (hi.map a.eval = none ∧ h = xs.length) ∨ ∃ k, hi.map a.eval = some (.int k h))
    (R : Ints wb v xs) (h0 : 0 ≤ l) (h1 : l ≤ h) (h2 : h ≤ xs.length)
    (hk : ∀ v', Ints wb v' ((xs.drop l.toNat).take (h - l).toNat) → wpList P ops Q rest (a.put o.dst v') w) : wpList P ops Q (o :: rest) a w := by
  obtain ⟨v', hr, R'⟩ := run_slice (P := P) (w := w) hop hT hx hlo hhi R.1 h0 h1 h2
  refine r_val hw hr (hk v' ⟨?_, fun y hy => R.2 y (List.mem_of_mem_drop (List.mem_of_mem_take hy))⟩)
  have hl : ((xs.drop l.toNat).take (h - l).toNat).length = (h - l).toNat := by simp; omega
  rw [hl, List.map_take, List.map_drop]
  simpa using R'

/-! ### Regions that draw their order and only read -/
theorem wp_region_below {id : Nat} {w : World} {l : List Oper} (hm : P.follows .mixedOrders = true) (hB : Region.lexB .any l.toArray = true)
    (h : wpQuiet P l.toArray (Below w.heap.size w) (fun a' => ∀ w', Below w.heap.size w w' → Q .normal a' w') l a) : (Code.region id l.toArray true).wp P Q a w :=
  wp_region_quiet (C := Below w.heap.size w) hm hB (Below.refl w.heap.size w).drew (by simpa using h)

variable {C : World → Prop} {K : Act → Prop} {Qq : Act → Prop}

theorem q_val (hw : Region.wanted o (yielded ops a.tmps) = true) {v : Value} (hr : ∀ w', C w' → (execOp a.eval o).run P w' = .ok (.value v) w') (h : wpQuiet P ops C Qq rest (a.put o.dst v)) : wpQuiet P ops C Qq (o :: rest) a :=
  BigFrame.wpQuiet_want hw fun _ hK => ⟨v, fun w' hc => by unfold Oper.quietAt; rw [hr w' hc]; exact ⟨rfl, rfl⟩, hK _ h⟩

theorem q_index (hw : Region.wanted o (yielded ops a.tmps) = true) {T E : TypeId} {x ix : Operand} {v : Value} {i : Int} {n sz bytes : Nat} {z : Value} {cs : List Value} {k : IntKind} {wb : World} (hop : o.op = .indexAddr T x ix)
    (hT : SlT P T E sz bytes z) (hx : a.eval x = v) (hi : a.eval ix = .int k i) (R : Rd wb sz v n cs) (h0 : 0 ≤ i) (h1 : i < n)
    (h : wpQuiet P ops C Qq rest (a.put o.dst (elem v (i.toNat * sz)))) : wpQuiet P ops C Qq (o :: rest) a :=
  q_val hw (fun _ _ => run_index hop hT hx hi R h0 h1) h

theorem q_loadInt (hw : Region.wanted o (yielded ops a.tmps) = true) {E : TypeId} {x : Operand} {v : Value} {xs : List Int} {i : Int} (hop : o.op = .load E x)
    (hE : P.underlying E = some (.int .i64)) (hx : a.eval x = elem v (i.toNat * 1)) (R : ∀ w', C w' → Rd w' 1 v xs.length (xs.map (Value.int .i64))) (h0 : 0 ≤ i) (h1 : i < xs.length)
    (h : wpQuiet P ops C Qq rest (a.put o.dst (.int .i64 (gi xs i)))) : wpQuiet P ops C Qq (o :: rest) a :=
  q_val hw (fun w' hc => run_load1 hop (int_not_agg hE w') hx (adr_int (R w' hc) h0 h1) rfl) h

theorem q_load1 (hw : Region.wanted o (yielded ops a.tmps) = true) {E : TypeId} {x : Operand} {A u : Value} {us : List Value} (hop : o.op = .load E x)
    (hE : P.underlying E = some (.int .i64)) (hx : a.eval x = A) (R : ∀ w', C w' → Adr w' A us) (hu : us[0]? = some u)
    (h : wpQuiet P ops C Qq rest (a.put o.dst u)) : wpQuiet P ops C Qq (o :: rest) a :=
  q_val hw (fun w' hc => run_load1 hop (int_not_agg hE w') hx (R w' hc) hu) h

theorem q_len (hw : Region.wanted o (yielded ops a.tmps) = true) {T E : TypeId} {x : Operand} {v : Value} {n sz bytes : Nat} {z : Value} {cs : List Value} {wb : World}
    (hop : o.op = .call { callee := .builtin .len, args := #[x], argTypes := #[T] })
    (hT : SlT P T E sz bytes z) (hx : a.eval x = v) (R : Rd wb sz v n cs)
    (h : wpQuiet P ops C Qq rest (a.put o.dst (.int .i64 n))) : wpQuiet P ops C Qq (o :: rest) a :=
  q_val hw (fun _ _ => run_len hop hT hx R) h

theorem q_field (hw : Region.wanted o (yielded ops a.tmps) = true) {S f off k : Nat} {x : Operand} {v : Value} {us : List Value} {wb : World} (hop : o.op = .fieldAddr S x f)
    (hS : FdT P S f off) (hx : a.eval x = elem v k) (R : Adr wb (elem v k) us)
    (h : wpQuiet P ops C Qq rest (a.put o.dst (elem v (k + off)))) : wpQuiet P ops C Qq (o :: rest) a :=
  q_val hw (fun _ _ => run_field hop hS hx R) h

/-! ### What a box holds -/
theorem Acc.adr {E : TypeId} {p : Value} {cs : List Value} (A : Acc w0 w (bent E p cs) F) (k m : Nat) (hk : k < cs.length) : Adr w (elem p k) ((cs.drop k).take m) := Ent.adr A.ok k m hk

theorem Acc.adr1 {E : TypeId} {p u : Value} {cs : List Value} (A : Acc w0 w (bent E p cs) F) (k : Nat) (hk : cs[k]? = some u) : Adr w (elem p k) [u] := by
  have hl := (List.getElem?_eq_some_iff.1 hk)
  have h := A.adr k 1 hl.1
  rw [List.drop_eq_getElem_cons hl.1] at h
  simpa [hl.2] using h

theorem Acc.all {E : TypeId} {p : Value} {cs : List Value} (A : Acc w0 w (bent E p cs) F) (hk : 0 < cs.length) : Adr w (elem p 0) cs := by
  simpa using A.adr 0 cs.length hk

theorem Acc.rd {E : TypeId} {v : Value} {sz n : Nat} {cs : List Value} (A : Acc w0 w ⟨false, v, E, sz, n, cs⟩ F) : Rd w sz v n cs := Ent.rd A.ok

theorem Acc.ints {E : TypeId} {v : Value} {xs : List Int} (A : Acc w0 w (ient E v xs) F) : Rd w 1 v xs.length (xs.map (Value.int .i64)) := Ent.rd A.ok

theorem Sep.i0 {E : TypeId} {v : Value} {xs : List Int} (S : Sep w0 (ient E v xs :: L) w) (h : AllI xs) : Ints w v xs := ⟨S.a0.ints, h⟩
theorem Sep.i1 {E : TypeId} {p : Ent} {v : Value} {xs : List Int} (S : Sep w0 (p :: ient E v xs :: L) w) (h : AllI xs) : Ints w v xs := ⟨S.a1.ints, h⟩
theorem Sep.i2 {E : TypeId} {p q : Ent} {v : Value} {xs : List Int} (S : Sep w0 (p :: q :: ient E v xs :: L) w) (h : AllI xs) : Ints w v xs := ⟨S.a2.ints, h⟩
theorem Sep.i3 {E : TypeId} {p q r : Ent} {v : Value} {xs : List Int} (S : Sep w0 (p :: q :: r :: ient E v xs :: L) w) (h : AllI xs) : Ints w v xs := ⟨S.a3.ints, h⟩
theorem Sep.cat1 {w' : World} {x : Ent} (S : Sep w0 L w) (T : Sep w [x] w') : Sep w0 (x :: L) w' := S.cat T

/-- A result that lies in a box, and another one. -/
theorem res_box_tmp {fn : Func} {p u : Tmp} {ty sz : Nat} {z v : Value} {us : List Value} {tmps : Array Value} (h : fn.results = #[.cell p ty, .tmp u]) (hp : tmps.getD p undef = elem v 0) (hE : StT P ty z sz) (R : Adr w (elem v 0) us) (hl : us.length = sz) :
    (results fn tmps).run P w = .ok (.tuple #[.agg us.toArray, tmps.getD u undef]) w := by
  rw [results_cell_tmp h, hp]
  obtain ⟨b, off, he, hc⟩ := R
  obtain ⟨inf, hinf, hzz⟩ := Option.map_eq_some_iff.1 hE.inf
  simp only [Prod.mk.injEq] at hzz
  have hl' := run_loadCells_list (P := P) w ⟨b, off, none⟩ us (fun j v hv => by rw [Addr.add_lit]; exact hc j v hv)
  rw [he]
  simp [asAddr, loadVar, st_agg hE, Sem.run_bind, sizeOf, typeInfo, hinf, hzz.2, ← hl, hl', Result.andThen]

theorem res_box {fn : Func} {p : Tmp} {ty sz : Nat} {z v : Value} {us : List Value} {tmps : Array Value} (h : fn.results = #[.cell p ty]) (hp : tmps.getD p undef = elem v 0) (hE : StT P ty z sz) (R : Adr w (elem v 0) us) (hl : us.length = sz) :
    (results fn tmps).run P w = .ok (.agg us.toArray) w := by
  obtain ⟨b, off, he, hc⟩ := R
  obtain ⟨inf, hinf, hzz⟩ := Option.map_eq_some_iff.1 hE.inf
  simp only [Prod.mk.injEq] at hzz
  have hl' := run_loadCells_list (P := P) w ⟨b, off, none⟩ us (fun j v hv => by rw [Addr.add_lit]; exact hc j v hv)
  have hp' : tmps[p]?.getD undef = .pointer (some ⟨b, off, none⟩) := by rw [← he, ← hp]; simp
  simp [results, h, hp', asAddr, loadVar, st_agg hE, Sem.run_bind, sizeOf, typeInfo, hinf, hzz.2, ← hl, hl', Result.andThen]

/-! ### Shifts -/
theorem run_shr {x y : Operand} {t1 t2 : TypeId} {m c : Int} (hop : o.op = .binOp .shr t1 x y t2) (hx : a.eval x = .int .i64 m) (hy : a.eval y = .int .i64 c) (h0 : 0 ≤ m) (hc : 0 ≤ c) (hc' : c ≤ 63) :
    (execOp a.eval o).run P w = .ok (.value (.int .i64 (m / 2 ^ c.toNat))) w := by
  unfold execOp
  simp only [hop, hx, hy]
  have h1 : ¬ c < 0 := by omega
  have h2 : min c.toNat IntKind.i64.bits = c.toNat := by simp [IntKind.bits]; omega
  have h3 : m.fdiv (2 ^ c.toNat) = m / 2 ^ c.toNat := Int.fdiv_eq_ediv_of_nonneg _ (Int.le_of_lt (Int.pow_pos (by decide)))
  simp [eqGuard, binOp, Op.shift, h1, h2, h3]

theorem r_shr (hw : Region.wanted o (yielded ops a.tmps) = true) {x y : Operand} {t1 t2 : TypeId} {m c : Int} (hop : o.op = .binOp .shr t1 x y t2) (hx : a.eval x = .int .i64 m) (hy : a.eval y = .int .i64 c) (h0 : 0 ≤ m) (hc : 0 ≤ c) (hc' : c ≤ 63)
    (h : wpList P ops Q rest (a.put o.dst (.int .i64 (m / 2 ^ c.toNat))) w) : wpList P ops Q (o :: rest) a w := r_val hw (run_shr hop hx hy h0 hc hc') h

theorem run_shl {x y : Operand} {t1 t2 : TypeId} {m c : Int} (hop : o.op = .binOp .shl t1 x y t2) (hx : a.eval x = .int .i64 m) (hy : a.eval y = .int .i64 c) (hc : 0 ≤ c) (hc' : c ≤ 63) (hb : I64 (m * 2 ^ c.toNat)) :
    (execOp a.eval o).run P w = .ok (.value (.int .i64 (m * 2 ^ c.toNat))) w := by
  unfold execOp
  simp only [hop, hx, hy]
  have h1 : ¬ c < 0 := by omega
  have h2 : min c.toNat IntKind.i64.bits = c.toNat := by simp [IntKind.bits]; omega
  have h3 := IntWalk.i64_in _ hb
  simp [eqGuard, binOp, Op.shift, h1, h2, h3]

theorem r_shl (hw : Region.wanted o (yielded ops a.tmps) = true) {x y : Operand} {t1 t2 : TypeId} {m c : Int} (hop : o.op = .binOp .shl t1 x y t2) (hx : a.eval x = .int .i64 m) (hy : a.eval y = .int .i64 c) (hc : 0 ≤ c) (hc' : c ≤ 63) (hb : I64 (m * 2 ^ c.toNat))
    (h : wpList P ops Q rest (a.put o.dst (.int .i64 (m * 2 ^ c.toNat))) w) : wpList P ops Q (o :: rest) a w := r_val hw (run_shl hop hx hy hc hc' hb) h

theorem Ints.rd {v : Value} {xs : List Int} (h : Ints w v xs) : Rd w 1 v xs.length (xs.map (Value.int .i64)) := h.1
theorem Ints.rdS {v : Value} {xs : List Int} (h : Ints w0 v xs) (S : Sep w0 L w) : Rd w 1 v xs.length (xs.map (Value.int .i64)) := (S.ints h).1
theorem Ints.rdQ {v : Value} {xs : List Int} (h : Ints w v xs) : ∀ w', Below w.heap.size w w' → Rd w' 1 v xs.length (xs.map (Value.int .i64)) := fun _ hb => h.1.kept fun k _ hk => hb.block k hk
theorem Ints.rdSQ {v : Value} {xs : List Int} (h : Ints w0 v xs) (S : Sep w0 L w) : ∀ w', Below w.heap.size w w' → Rd w' 1 v xs.length (xs.map (Value.int .i64)) := fun _ hb => ((S.ext hb).ints h).1
theorem Acc.intsQ {E : TypeId} {v : Value} {xs : List Int} (A : Acc w0 w (ient E v xs) F) : ∀ w', Below w.heap.size w w' → Rd w' 1 v xs.length (xs.map (Value.int .i64)) := fun _ hb => (A.ext hb).ints

end
end Go.Proofs.Ytjbedonncjppfaa
