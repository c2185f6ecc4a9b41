/-
  The walk's steps for operations on slices that are read or owned.
-/
import Derived.Test.YtjbedonncjppfaaBase
namespace Go.Proofs.Ytjbedonncjppfaa
set_option linter.unusedVariables false
set_option linter.unusedSimpArgs false
set_option linter.unnecessarySimpa false
open Go.RowKit

/-- A slice type's row: its element type, the element's zero value, its cells, its bytes. -/
structure SlT (P : Program) (T E : TypeId) (sz bytes : Nat) (z : Value) : Prop where
  und : P.underlying T = some (.slice E)
  inf : (P.info? E).map (fun i => (i.zero, i.size, i.bytes)) = some (some z, sz, bytes)
  zsz : z.cells.size = sz
  pos : 0 < sz
  small : bytes ≤ 64

/-- A struct type of sz cells. -/
structure StT (P : Program) (E : TypeId) (z : Value) (sz : Nat) : Prop where
  und : (match P.underlying E with | some (.struct _) => true | _ => false) = true
  inf : (P.info? E).map (fun i => (i.zero, i.size)) = some (some z, sz)
  zsz : z.cells.size = sz

/-- A struct's field. -/
def FdT (P : Program) (S f off : Nat) : Prop :=
  (match P.underlying S with | some (.struct fs) => (fs[f]?).bind fun F => (P.info? F.type).map fun i => (F.offset, decide (i.size = 0)) | _ => none) = some (off, false)





/-- Owned ints. -/
def ient (E : TypeId) (v : Value) (xs : List Int) : Ent := ⟨false, v, E, 1, xs.length, xs.map (.int .i64)⟩
/-- A box. -/
def bent (E : TypeId) (v : Value) (cs : List Value) : Ent := ⟨true, v, E, 0, 0, cs⟩

section
variable {P : Program} {ops : Array Oper} {Q : Exit → Act → World → Prop} {a : Act} {w : World} {rest : List Oper} {o : Oper}

theorem r_val (hw : Region.wanted o (yielded ops a.tmps) = true) {v : Value} (hr : (execOp a.eval o).run P w = .ok (.value v) w)
    (h : wpList P ops Q rest (a.put o.dst v) w) : wpList P ops Q (o :: rest) a w := by
  refine wpList_step fun K hK => ?_
  rw [if_pos hw]
  unfold Oper.wp
  rw [hr]
  exact hK _ _ h

theorem r_valw (hw : Region.wanted o (yielded ops a.tmps) = true) {v : Value} {w' : World} (hr : (execOp a.eval o).run P w = .ok (.value v) w')
    (h : wpList P ops Q rest (a.put o.dst v) w') : wpList P ops Q (o :: rest) a w := by
  refine wpList_step fun K hK => ?_
  rw [if_pos hw]
  unfold Oper.wp
  rw [hr]
  exact hK _ _ h

theorem r_skip (hw : Region.wanted o (yielded ops a.tmps) = true) {w' : World} (hr : (execOp a.eval o).run P w = .ok .skip w')
    (h : wpList P ops Q rest (a.put o.dst undef) w') : wpList P ops Q (o :: rest) a w := by
  refine wpList_step fun K hK => ?_
  rw [if_pos hw]
  unfold Oper.wp
  rw [hr]
  exact hK _ _ h

/-! ### Reading -/
theorem run_index {T E : TypeId} {x ix : Operand} {v : Value} {i : Int} {n sz bytes : Nat} {z : Value} {cs : List Value} {k : IntKind} {wb : World} (hop : o.op = .indexAddr T x ix)
    (hT : SlT P T E sz bytes z) (hx : a.eval x = v) (hi : a.eval ix = .int k i) (R : Rd wb sz v n cs) (h0 : 0 ≤ i) (h1 : i < n) :
    (execOp a.eval o).run P w = .ok (.value (elem v (i.toNat * sz))) w := by
  obtain ⟨inf, hinf, hz0, hz1, hz2⟩ := info_parts hT.inf
  unfold execOp
  simp only [hop, hx, hi]
  rcases R.2.2 with ⟨rfl, _⟩ | ⟨b, off, c, rfl, h3, h4, hc⟩
  · omega
  · simp [Instr.indexAt, asIntOf, run_underlying hT.und, h0, h1, sizeOf, typeInfo, hinf, hz1, elem, Addr.add]

theorem r_index (hw : Region.wanted o (yielded ops a.tmps) = true) {T E : TypeId} {x ix : Operand} {v : Value} {i : Int} {n sz bytes : Nat} {z : Value} {cs : List Value} {k : IntKind} {wb : World} (hop : o.op = .indexAddr T x ix)
    (hT : SlT P T E sz bytes z) (hx : a.eval x = v) (hi : a.eval ix = .int k i) (R : Rd wb sz v n cs) (h0 : 0 ≤ i) (h1 : i < n)
    (h : wpList P ops Q rest (a.put o.dst (elem v (i.toNat * sz))) w) : wpList P ops Q (o :: rest) a w :=
  r_val hw (run_index hop hT hx hi R h0 h1) h

theorem int_not_agg {E : TypeId} {k : IntKind} (h : P.underlying E = some (.int k)) (w : World) : (isAgg E).run P w = .ok false w := by
  simp [isAgg, run_underlying h]

theorem st_agg {E : TypeId} {z : Value} {sz : Nat} (h : StT P E z sz) (w : World) : (isAgg E).run P w = .ok true w := by
  have hu := h.und
  cases hd : P.underlying E with
  | none => rw [hd] at hu; cases hu
  | some d =>
    rw [hd] at hu
    unfold isAgg
    rw [Sem.run_bind, run_underlying hd w]
    cases d <;> simp_all

theorem run_load1 {E : TypeId} {x : Operand} {A u : Value} {us : List Value} (hop : o.op = .load E x)
    (hE : (isAgg E).run P w = .ok false w) (hx : a.eval x = A) (R : Adr w A us) (hu : us[0]? = some u) :
    (execOp a.eval o).run P w = .ok (.value u) w := by
  obtain ⟨b, off, he, hc⟩ := R
  have hc0 := hc 0 u hu
  unfold execOp
  simp only [hop, hx, he]
  simp only [Nat.add_zero] at hc0
  simp [Instr.loadAt, Instr.sureAddr, loadVar, hE, load, Sem.run, hc0, Sem.run_bind]

theorem run_loadAgg {E : TypeId} {x : Operand} {A z : Value} {us : List Value} {sz : Nat} (hop : o.op = .load E x)
    (hE : StT P E z sz) (hx : a.eval x = A) (R : Adr w A us) (hu : us.length = sz) :
    (execOp a.eval o).run P w = .ok (.value (.agg us.toArray)) w := by
  obtain ⟨b, off, he, hc⟩ := R
  obtain ⟨inf, hinf, hzz⟩ := Option.map_eq_some_iff.1 hE.inf
  simp only [Prod.mk.injEq] at hzz
  have hl := run_loadCells_list (P := P) w ⟨b, off, none⟩ us (fun j v hv => by rw [Addr.add_lit]; exact hc j v hv)
  unfold execOp
  simp only [hop, hx, he]
  simp [Instr.loadAt, Instr.sureAddr, loadVar, st_agg hE, Sem.run_bind, sizeOf, typeInfo, hinf, hzz.2, ← hu, hl]

theorem r_load1 (hw : Region.wanted o (yielded ops a.tmps) = true) {E : TypeId} {x : Operand} {A u : Value} {us : List Value} (hop : o.op = .load E x)
    (hE : P.underlying E = some (.int .i64)) (hx : a.eval x = A) (R : Adr w A us) (hu : us[0]? = some u)
    (h : wpList P ops Q rest (a.put o.dst u) w) : wpList P ops Q (o :: rest) a w :=
  r_val hw (run_load1 hop (int_not_agg hE w) hx R hu) h

theorem r_loadAgg (hw : Region.wanted o (yielded ops a.tmps) = true) {E : TypeId} {x : Operand} {A z : Value} {us : List Value} {sz : Nat} (hop : o.op = .load E x)
    (hE : StT P E z sz) (hx : a.eval x = A) (R : Adr w A us) (hu : us.length = sz)
    (h : wpList P ops Q rest (a.put o.dst (.agg us.toArray)) w) : wpList P ops Q (o :: rest) a w :=
  r_val hw (run_loadAgg hop hE hx R hu) h

theorem adr_int {v : Value} {xs : List Int} {i : Int} (R : Rd w 1 v xs.length (xs.map (Value.int .i64))) (h0 : 0 ≤ i) (h1 : i < xs.length) : Adr w (elem v (i.toNat * 1)) [.int .i64 (gi xs i)] := by
  have h := R.adr i.toNat (by omega)
  have hl : i.toNat < xs.length := by omega
  have e : ((xs.map (Value.int .i64)).drop (i.toNat * 1)).take 1 = [.int .i64 (gi xs i)] := by
    rw [Nat.mul_one, List.drop_eq_getElem_cons (by simpa using hl)]
    simp [gi, List.getD, hl]
  rw [e] at h
  exact h

theorem r_loadInt (hw : Region.wanted o (yielded ops a.tmps) = true) {E : TypeId} {x : Operand} {v : Value} {xs : List Int} {i : Int} (hop : o.op = .load E x)
    (hE : P.underlying E = some (.int .i64)) (hx : a.eval x = elem v (i.toNat * 1)) (R : Rd w 1 v xs.length (xs.map (Value.int .i64))) (h0 : 0 ≤ i) (h1 : i < xs.length)
    (h : wpList P ops Q rest (a.put o.dst (.int .i64 (gi xs i))) w) : wpList P ops Q (o :: rest) a w :=
  r_load1 hw hop hE hx (adr_int R h0 h1) rfl h

theorem r_loadIntN (hw : Region.wanted o (yielded ops a.tmps) = true) {E : TypeId} {x : Operand} {v : Value} {xs : List Int} {k : Nat} (hop : o.op = .load E x)
    (hE : P.underlying E = some (.int .i64)) (hx : a.eval x = elem v k) (R : Rd w 1 v xs.length (xs.map (Value.int .i64))) (h1 : k < xs.length)
    (h : wpList P ops Q rest (a.put o.dst (.int .i64 (gi xs (k : Int)))) w) : wpList P ops Q (o :: rest) a w :=
  r_loadInt (i := (k : Int)) hw hop hE (by rw [hx, Int.toNat_natCast, Nat.mul_one]) R (by omega) (by omega) h

theorem run_len {T E : TypeId} {x : Operand} {v : Value} {n sz bytes : Nat} {z : Value} {cs : List Value} {wb : World}
    (hop : o.op = .call { callee := .builtin .len, args := #[x], argTypes := #[T] })
    (hT : SlT P T E sz bytes z) (hx : a.eval x = v) (R : Rd wb sz v n cs) : (execOp a.eval o).run P w = .ok (.value (.int .i64 n)) w := by
  unfold execOp
  simp only [hop, resolve, invoke, builtin, Sem.run_bind, Sem.run_pure, Result.andThen_ok, List.map_toArray, List.map_cons, List.map_nil, hx]
  rcases R.2.2 with ⟨rfl, a1, c, rfl, _⟩ | ⟨b, off, c, rfl, h3, h4, hc⟩ <;>
  simp [Builtin.len_, run_underlying hT.und, goInt]

theorem r_len (hw : Region.wanted o (yielded ops a.tmps) = true) {T E : TypeId} {x : Operand} {v : Value} {n sz bytes : Nat} {z : Value} {cs : List Value} {wb : World}
    (hop : o.op = .call { callee := .builtin .len, args := #[x], argTypes := #[T] })
    (hT : SlT P T E sz bytes z) (hx : a.eval x = v) (R : Rd wb sz v n cs)
    (h : wpList P ops Q rest (a.put o.dst (.int .i64 n)) w) : wpList P ops Q (o :: rest) a w :=
  r_val hw (run_len hop hT hx R) h

/-- A part of a slice, by its cells. -/
theorem run_slice {T E : TypeId} {x : Operand} {lo hi : Option Operand} {v : Value} {l h : Int} {n sz bytes : Nat} {z : Value} {cs : List Value} {wb : World}
    (hop : o.op = .slice T x lo hi none) (hT : SlT P T E sz bytes z) (hx : a.eval x = v)
    (hlo : (lo.map a.eval = none ∧ l = 0) ∨ ∃ k, lo.map a.eval = some (.int k l)) (hhi : (hi.map a.eval = none ∧ h = n) ∨ ∃ k, hi.map a.eval = some (.int k h))
    (R : Rd wb sz v n cs) (h0 : 0 ≤ l) (h1 : l ≤ h) (h2 : h ≤ n) :
    ∃ v', (execOp a.eval o).run P w = .ok (.value v') w ∧ Rd wb sz v' (h - l).toNat ((cs.drop (l.toNat * sz)).take ((h - l).toNat * sz)) := by
  obtain ⟨inf, hinf, hz0, hz1, hz2⟩ := info_parts hT.inf
  obtain ⟨L, rfl⟩ := Int.eq_ofNat_of_zero_le h0
  obtain ⟨H, rfl⟩ := Int.eq_ofNat_of_zero_le (Int.le_trans h0 h1)
  have hsl : (Instr.sliceAt T v (lo.map a.eval) (hi.map a.eval) none).run P w = (Instr.slice T v (lo.map a.eval) (hi.map a.eval) none).run P w := by
    simp [Instr.sliceAt, Sem.run_bind, run_underlying hT.und]
  have hsub : (↑H - ↑L : Int).toNat = H - L := by omega
  have hlen : ((cs.drop (L * sz)).take ((H - L) * sz)).length = (H - L) * sz := by
    rw [List.length_take, List.length_drop, R.1]
    have : (H - L) * sz ≤ n * sz - L * sz := by rw [← Nat.sub_mul]; exact Nat.mul_le_mul_right _ (by omega)
    omega
  have hS : ∀ (k : IntKind) (X Y : Nat) (code : BoundsCode), X ≤ Y → (Instr.sliceBound (.int k X) Y code).run P w = .ok X w := fun k X Y code hXY => by
    simp [Instr.sliceBound, asIntOf, show (X : Int) ≤ Y by omega]
  have hbd : ∀ (cap : Nat), n ≤ cap → (Instr.sliceBounds true n cap (lo.map a.eval) (hi.map a.eval) none).run P w = .ok (L, H, cap) w := by
    intro cap hcap
    have hLH : L ≤ H := by omega
    have hHc : H ≤ cap := by omega
    rcases hhi with ⟨e, e2⟩ | ⟨k, e⟩ <;> rcases hlo with ⟨e', e2'⟩ | ⟨k', e'⟩ <;> rw [e, e']
    · obtain rfl : H = n := by omega
      obtain rfl : L = 0 := by omega
      simp [Instr.sliceBounds]
    · obtain rfl : H = n := by omega
      simp [Instr.sliceBounds, hS _ _ _ _ hLH]
    · obtain rfl : L = 0 := by omega
      simp [Instr.sliceBounds, hS _ _ _ _ hHc]
    · simp [Instr.sliceBounds, hS _ _ _ _ hHc, hS _ _ _ _ hLH]
  unfold execOp
  simp only [hop, hx, Option.map_none, Int.toNat_natCast, hsub]
  rcases R.2.2 with ⟨rfl, a1, c, rfl, hnil⟩ | ⟨b, off, c, rfl, h3, h4, hc⟩
  · have e1 : L = 0 := by omega
    have e2 : H = 0 := by omega
    subst e1; subst e2
    refine ⟨.slice (if c = 0 then a1 else a1.map (·.add 0)) 0 c, ?_, by simp, by omega, .inl ⟨rfl, _, c, rfl, ?_⟩⟩
    · have := hbd c (Nat.zero_le _)
      simp [hsl, Instr.slice, run_underlying hT.und, Sem.run_bind, this, Result.andThen, sizeOf, typeInfo, hinf]
    · intro h
      split at h
      · assumption
      · cases a1 with
        | none => exact hnil rfl
        | some A => cases h
  · have := hbd c h3
    refine ⟨.slice (if c = L then some ⟨b, off, none⟩ else some ⟨b, off + L * sz, none⟩) (H - L) (c - L), ?_, hlen, by have := R.2.1; omega, ?_⟩
    · simp [hsl, Instr.slice, run_underlying hT.und, Sem.run_bind, this, Result.andThen, sizeOf, typeInfo, hinf, hz1, Addr.add_lit]
    · by_cases hcL : c = L
      · rw [if_pos hcL]
        refine .inr ⟨b, off, c - L, rfl, by omega, by omega, fun j u hu => ?_⟩
        have hj := (List.getElem?_eq_some_iff.1 hu).1
        rw [hlen, show H - L = 0 by omega] at hj
        omega
      · rw [if_neg hcL]
        refine .inr ⟨b, off + L * sz, c - L, rfl, by omega, by omega, fun j u hu => ?_⟩
        rw [List.getElem?_take] at hu
        split at hu
        · rw [List.getElem?_drop] at hu
          rw [Nat.add_assoc]
          exact hc _ _ hu
        · cases hu

/-- A field's address. -/
theorem run_field {S f off k : Nat} {x : Operand} {v : Value} {us : List Value} {wb : World} (hop : o.op = .fieldAddr S x f)
    (hS : FdT P S f off) (hx : a.eval x = elem v k) (R : Adr wb (elem v k) us) : (execOp a.eval o).run P w = .ok (.value (elem v (k + off))) w := by
  obtain ⟨b, o', he, _⟩ := R
  unfold FdT at hS
  have key : ∀ A : Addr, A.spot = none → elem v k = .pointer (some A) → (Instr.fieldAt S (.pointer (some A)) f).run P w = .ok (.pointer (some (A.add off))) w := by
    intro A _ _
    cases hd : P.underlying S with
    | none => rw [hd] at hS; cases hS
    | some d =>
      rw [hd] at hS
      cases d with
      | struct fs =>
        simp only at hS
        cases hf : fs[f]? with
        | none => rw [hf] at hS; cases hS
        | some F =>
          rw [hf] at hS
          simp only [Option.bind_some] at hS
          obtain ⟨i, hi, he⟩ := Option.map_eq_some_iff.1 hS
          simp only [Prod.mk.injEq, decide_eq_false_iff_not] at he
          simp [Instr.fieldAt, run_underlying hd, Sem.run_bind, Result.andThen, hf, Instr.sureAddr, fieldPlace, sizeOf, typeInfo, hi, he.1, he.2]
      | _ => cases hS
  unfold execOp
  simp only [hop, hx, he]
  rw [Sem.run_bind, key ⟨b, o', none⟩ rfl he]
  simp only [Result.andThen_ok, Sem.run_pure]
  congr 2
  cases v with
  | slice a0 n c =>
    cases a0 with
    | none => cases he
    | some A =>
      simp only [elem, Value.pointer.injEq, Option.some.injEq] at he ⊢
      obtain ⟨bb, oo, ss⟩ := A
      cases ss with
      | none => simp only [Addr.add_lit, Addr.mk.injEq] at he ⊢; obtain ⟨rfl, rfl, _⟩ := he; simp [Nat.add_assoc]
      | some s =>
        by_cases hk : k = 0
        · simp [Addr.add, hk] at he
        · simp [Addr.add, hk] at he ⊢; obtain ⟨rfl, rfl⟩ := he; simp [Nat.add_assoc]
  | pointer a0 =>
    cases a0 with
    | none => cases he
    | some A =>
      simp only [elem, Value.pointer.injEq, Option.some.injEq] at he ⊢
      obtain ⟨bb, oo, ss⟩ := A
      cases ss with
      | none => simp only [Addr.add_lit, Addr.mk.injEq] at he ⊢; obtain ⟨rfl, rfl, _⟩ := he; simp [Nat.add_assoc]
      | some s =>
        by_cases hk : k = 0
        · simp [Addr.add, hk] at he
        · simp [Addr.add, hk] at he ⊢; obtain ⟨rfl, rfl⟩ := he; simp [Nat.add_assoc]
  | _ => cases he

theorem r_field (hw : Region.wanted o (yielded ops a.tmps) = true) {S f off k : Nat} {x : Operand} {v : Value} {us : List Value} {wb : World} (hop : o.op = .fieldAddr S x f)
    (hS : FdT P S f off) (hx : a.eval x = elem v k) (R : Adr wb (elem v k) us)
    (h : wpList P ops Q rest (a.put o.dst (elem v (k + off))) w) : wpList P ops Q (o :: rest) a w :=
  r_val hw (run_field hop hS hx R) h

end
end Go.Proofs.Ytjbedonncjppfaa
