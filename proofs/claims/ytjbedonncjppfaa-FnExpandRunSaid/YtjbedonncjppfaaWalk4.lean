/-
  Further steps over an environment: slices of bytes, parts of slices, loads of slices, nil checks, conversions.
-/
import Derived.Test.YtjbedonncjppfaaMix
namespace Go.Proofs.Ytjbedonncjppfaa
set_option linter.unusedVariables false
set_option linter.unusedSimpArgs false
set_option linter.unnecessarySimpa false
open Go.RowKit

/-- A slice of bytes. -/
def Byt (w : World) (v : Value) (zs : List Int) : Prop := Rd w 1 v zs.length (zs.map (Value.int .u8)) ∧ ∀ x ∈ zs, 0 ≤ x ∧ x ≤ 255

theorem Sep.byt {w0 w : World} {L : List Ent} (S : Sep w0 L w) {v : Value} {zs : List Int} (h : Byt w0 v zs) : Byt w v zs := ⟨S.rd h.1, h.2⟩

theorem Rd.isSlice {w : World} {sz n : Nat} {v : Value} {cs : List Value} (h : Rd w sz v n cs) : ∃ a m c, v = .slice a m c := by
  rcases h.2.2 with ⟨_, a, c, hv, _⟩ | ⟨b, o, c, hv, _⟩
  · exact ⟨_, _, _, hv⟩
  · exact ⟨_, _, _, hv⟩

theorem gi_mem {P : Int → Prop} {zs : List Int} (h : ∀ x ∈ zs, P x) {i : Int} (h0 : 0 ≤ i) (h1 : i < zs.length) : P (gi zs i) := by
  obtain ⟨k, rfl⟩ := Int.eq_ofNat_of_zero_le h0
  have hk : k < zs.length := by omega
  rw [gi_nat hk]
  exact h _ (List.getElem_mem hk)

section
variable {P : Program} {n : Nat} {e : List (Nat × Value)} {Q Q' : Exit → Act → World → Prop} {w w0 : World} {ops : Array Oper} {rest : List Oper} {C : World → Prop} {K : Act → Prop}
variable {op : Op} {d : Nat} {ty : TypeId} {pos : String} {after : Array Edge} {v u : Value} {L : List Ent} {F : Ent → List Ent}
variable {x y c : Operand} {t1 t2 : TypeId} {m k : Int} {dst : Option Tmp} {g : Option (Nat × Bool)}

theorem slice_not_agg {E E' : TypeId} (h : P.underlying E = some (.slice E')) (w : World) : (isAgg E).run P w = .ok false w := by
  simp [isAgg, run_underlying h]
theorem intk_not_agg {E : TypeId} {kk : IntKind} (h : P.underlying E = some (.int kk)) (w : World) : (isAgg E).run P w = .ok false w := by
  simp [isAgg, run_underlying h]
theorem bool_not_agg {E : TypeId} (h : P.underlying E = some .bool) (w : World) : (isAgg E).run P w = .ok false w := by
  simp [isAgg, run_underlying h]

/-- A load of a slice value. -/
theorem x_loadS [hC : Wc C w] {E E' : TypeId} {A : Value} {us : List Value} (hE : P.underlying E = some (.slice E')) (hx : opE e x = some A) (R : Adr w A us) (hu : us[0]? = some u) : Ex P n e C ⟨dst, .load E x, ty, pos, after, g⟩ u := ⟨fun a H w' hc =>
  run_load1 rfl (slice_not_agg hE w') (H.eval hx) (adr_kept R (hC.below w' hc)) hu⟩
theorem x_loadSC {E E' : TypeId} {A : Value} {us : List Value} (hE : P.underlying E = some (.slice E')) (hx : opE e x = some A) (R : ∀ w', C w' → Adr w' A us) (hu : us[0]? = some u) : Ex P n e C ⟨dst, .load E x, ty, pos, after, g⟩ u := ⟨fun a H w' hc =>
  run_load1 rfl (slice_not_agg hE w') (H.eval hx) (R w' hc) hu⟩
theorem adr_byte {zs : List Int} {i : Int} (R : Rd w 1 v zs.length (zs.map (Value.int .u8))) (h0 : 0 ≤ i) (h1 : i < zs.length) : Adr w (elem v (i.toNat * 1)) [.int .u8 (gi zs i)] := by
  have h := R.adr i.toNat (by omega)
  have hl : i.toNat < zs.length := by omega
  have e : ((zs.map (Value.int .u8)).drop (i.toNat * 1)).take 1 = [.int .u8 (gi zs i)] := by
    rw [Nat.mul_one, List.drop_eq_getElem_cons (by simpa using hl)]
    simp [gi, List.getD, hl]
  rw [e] at h
  exact h
theorem x_loadByte [hC : Wc C w] {E : TypeId} {zs : List Int} {i : Int} (hE : P.underlying E = some (.int .u8)) (hx : opE e x = some (elem v (i.toNat * 1))) (R : Rd w 1 v zs.length (zs.map (Value.int .u8))) (h0 : 0 ≤ i) (h1 : i < zs.length) : Ex P n e C ⟨dst, .load E x, ty, pos, after, g⟩ (.int .u8 (gi zs i)) := ⟨fun a H w' hc =>
  run_load1 rfl (intk_not_agg hE w') (H.eval hx) (adr_byte (R.kept fun k _ hk => (hC.below w' hc).block k hk) h0 h1) rfl⟩
theorem x_conv {kk : IntKind} (h1 : P.underlying t1 = some (.int kk)) (h2 : P.underlying t2 = some (.int .i64)) (hx : opE e x = some (.int kk m)) (hb : I64 m) : Ex P n e C ⟨dst, .convert t1 t2 x, ty, pos, after, g⟩ (.int .i64 m) := ⟨fun a H w _ => by
  have h := IntWalk.i64_in _ hb
  unfold execOp
  simp only [H.eval hx]
  unfold convert
  simp [Sem.run_bind, run_underlying h1, run_underlying h2, Conv.intToInt, h]⟩
theorem elem_box {B E : Nat} {p : Value} {cs : List Value} (h : Ent.ok B w (bent E p cs)) : ∃ b, p = .pointer (some ⟨b, 0, none⟩) := by
  simp only [bent, Ent.ok, if_true] at h
  obtain ⟨b, hb, _⟩ := h
  exact ⟨b, hb⟩
theorem x_nil {E : Nat} {p : Value} {cs : List Value} (hx : opE e x = some (elem p 0)) (A : Acc w0 w (bent E p cs) F) : Ex P n e C ⟨dst, .nilCheck x, ty, pos, after, g⟩ (elem p 0) := ⟨fun a H w' _ => by
  obtain ⟨b, rfl⟩ := elem_box A.ok
  have h1 := H.eval hx
  unfold execOp
  simp only [h1, elem_zero]
  simp⟩

/-- A part of a slice, in one value for all worlds, and what it reads wherever the whole is read. -/
theorem run_slice_any {T E : TypeId} {a : Act} {o : Oper} {x : Operand} {lo hi : Option Operand} {v : Value} {l h : Int} {cnt sz bytes : Nat} {z : Value} {cs : List Value} {wb : World}
    (hop : o.op = .slice T x lo hi none) (hT : SlT P T E sz bytes z) (hx : a.eval x = v)
    (hlo : (lo.map a.eval = none ∧ l = 0) ∨ ∃ k, lo.map a.eval = some (.int k l)) (hhi : (hi.map a.eval = none ∧ h = cnt) ∨ ∃ k, hi.map a.eval = some (.int k h))
    (R : Rd wb sz v cnt cs) (h0 : 0 ≤ l) (h1 : l ≤ h) (h2 : h ≤ cnt) :
    ∃ v', (∀ w, (execOp a.eval o).run P w = .ok (.value v') w) ∧ ∀ w', Rd w' sz v cnt cs → Rd w' sz v' (h - l).toNat ((cs.drop (l.toNat * sz)).take ((h - l).toNat * sz)) := by
  obtain ⟨v', hr, _⟩ := run_slice_all (P := P) hop hT hx hlo hhi R h0 h1 h2
  refine ⟨v', hr, fun w' R' => ?_⟩
  obtain ⟨v2, hr2, R2⟩ := run_slice_all (P := P) hop hT hx hlo hhi R' h0 h1 h2
  have := (hr w').symm.trans (hr2 w')
  simp only [Result.ok.injEq, Next.value.injEq, and_true] at this
  rw [this]; exact R2

theorem opt_lo {a : Act} {lo : Option Operand} {l : Int} (H : Holds n e a) (hlo : (lo = none ∧ l = 0) ∨ ∃ k, lo.bind (opE e) = some (.int k l)) : (lo.map a.eval = none ∧ l = 0) ∨ ∃ k, lo.map a.eval = some (.int k l) := by
  rcases hlo with ⟨rfl, e1⟩ | ⟨k, e1⟩
  · exact .inl ⟨rfl, e1⟩
  · obtain ⟨o, rfl, ho⟩ := Option.bind_eq_some_iff.1 e1
    exact .inr ⟨k, by rw [Option.map_some, H.eval ho]⟩
theorem opt_hi {a : Act} {hi : Option Operand} {h : Int} {cnt : Nat} (H : Holds n e a) (hhi : (hi = none ∧ h = cnt) ∨ ∃ k, hi.bind (opE e) = some (.int k h)) : (hi.map a.eval = none ∧ h = cnt) ∨ ∃ k, hi.map a.eval = some (.int k h) := by
  rcases hhi with ⟨rfl, e1⟩ | ⟨k, e1⟩
  · exact .inl ⟨rfl, e1⟩
  · obtain ⟨o, rfl, ho⟩ := Option.bind_eq_some_iff.1 e1
    exact .inr ⟨k, by rw [Option.map_some, H.eval ho]⟩

def PartI (v : Value) (xs : List Int) (v' : Value) (ys : List Int) : Prop := ∀ w, Ints w v xs → Ints w v' ys
def PartB (v : Value) (xs : List Int) (v' : Value) (ys : List Int) : Prop := ∀ w, Byt w v xs → Byt w v' ys
def PartT (v : Value) (xs : List Tok) (v' : Value) (ys : List Tok) : Prop := ∀ w, Toks w v xs → Toks w v' ys

theorem u_partI {T E : TypeId} {lo hi : Option Operand} {l h : Int} {xs : List Int} {wb : World} (hT : SlT P T E 1 8 (.int .i64 0)) (hx : opE e x = some v)
    (hlo : (lo = none ∧ l = 0) ∨ ∃ k, lo.bind (opE e) = some (.int k l)) (hhi : (hi = none ∧ h = xs.length) ∨ ∃ k, hi.bind (opE e) = some (.int k h))
    (R : Rd wb 1 v xs.length (xs.map (Value.int .i64))) (h0 : 0 ≤ l) (h1 : l ≤ h) (h2 : h ≤ xs.length) (hd : Nat.blt d n = true)
    (hk : ∀ v', PartI v xs v' ((xs.drop l.toNat).take (h - l).toNat) → UL P n ((d, v') :: e) ops Q rest w) : UL P n e ops Q (⟨some d, .slice T x lo hi none, ty, pos, after, none⟩ :: rest) w := ⟨fun a H => by
  obtain ⟨v', hr, R'⟩ := run_slice_any (P := P) (o := ⟨some d, .slice T x lo hi none, ty, pos, after, none⟩) rfl hT (H.eval hx) (opt_lo H hlo) (opt_hi H hhi) R h0 h1 h2
  have hl : ((xs.drop l.toNat).take (h - l).toNat).length = (h - l).toNat := by simp; omega
  have RI : PartI v xs v' ((xs.drop l.toNat).take (h - l).toNat) := fun w' hI => ⟨by rw [hl, List.map_take, List.map_drop]; simpa using R' w' hI.1, fun y hy => hI.2 y (List.mem_of_mem_drop (List.mem_of_mem_take hy))⟩
  exact r_val rfl (hr w) ((hk v' RI).go _ (H.put hd v'))⟩
theorem u_partB {T E : TypeId} {z : Value} {lo hi : Option Operand} {l h : Int} {xs : List Int} {wb : World} (hT : SlT P T E 1 1 z) (hx : opE e x = some v)
    (hlo : (lo = none ∧ l = 0) ∨ ∃ k, lo.bind (opE e) = some (.int k l)) (hhi : (hi = none ∧ h = xs.length) ∨ ∃ k, hi.bind (opE e) = some (.int k h))
    (R : Rd wb 1 v xs.length (xs.map (Value.int .u8))) (h0 : 0 ≤ l) (h1 : l ≤ h) (h2 : h ≤ xs.length) (hd : Nat.blt d n = true)
    (hk : ∀ v', PartB v xs v' ((xs.drop l.toNat).take (h - l).toNat) → UL P n ((d, v') :: e) ops Q rest w) : UL P n e ops Q (⟨some d, .slice T x lo hi none, ty, pos, after, none⟩ :: rest) w := ⟨fun a H => by
  obtain ⟨v', hr, R'⟩ := run_slice_any (P := P) (o := ⟨some d, .slice T x lo hi none, ty, pos, after, none⟩) rfl hT (H.eval hx) (opt_lo H hlo) (opt_hi H hhi) R h0 h1 h2
  have hl : ((xs.drop l.toNat).take (h - l).toNat).length = (h - l).toNat := by simp; omega
  have RI : PartB v xs v' ((xs.drop l.toNat).take (h - l).toNat) := fun w' hI => ⟨by rw [hl, List.map_take, List.map_drop]; simpa using R' w' hI.1, fun y hy => hI.2 y (List.mem_of_mem_drop (List.mem_of_mem_take hy))⟩
  exact r_val rfl (hr w) ((hk v' RI).go _ (H.put hd v'))⟩
theorem flat_drop_take (ts : List Tok) (i k : Nat) : flat ((ts.drop i).take k) = ((flat ts).drop (i * 3)).take (k * 3) := by
  have hd : ∀ (i : Nat) (ts : List Tok), flat (ts.drop i) = (flat ts).drop (i * 3) := by
    intro i
    induction i with
    | zero => intro ts; simp
    | succ i ih =>
      intro ts
      cases ts with
      | nil => simp [flat]
      | cons t ts => rw [List.drop_succ_cons, ih, flat_cons, show (i + 1) * 3 = i * 3 + 3 by omega]; simp [tcs]
  have ht : ∀ (k : Nat) (ts : List Tok), flat (ts.take k) = (flat ts).take (k * 3) := by
    intro k
    induction k with
    | zero => intro ts; simp [flat]
    | succ k ih =>
      intro ts
      cases ts with
      | nil => simp [flat]
      | cons t ts => rw [List.take_succ_cons, flat_cons, ih, flat_cons, show (k + 1) * 3 = k * 3 + 3 by omega]; simp [tcs]
  rw [ht, hd]
theorem u_partT {T E : TypeId} {z : Value} {lo hi : Option Operand} {l h : Int} {xs : List Tok} {wb : World} (hT : SlT P T E 3 24 z) (hx : opE e x = some v)
    (hlo : (lo = none ∧ l = 0) ∨ ∃ k, lo.bind (opE e) = some (.int k l)) (hhi : (hi = none ∧ h = xs.length) ∨ ∃ k, hi.bind (opE e) = some (.int k h))
    (R : Rd wb 3 v xs.length (flat xs)) (h0 : 0 ≤ l) (h1 : l ≤ h) (h2 : h ≤ xs.length) (hd : Nat.blt d n = true)
    (hk : ∀ v', PartT v xs v' ((xs.drop l.toNat).take (h - l).toNat) → UL P n ((d, v') :: e) ops Q rest w) : UL P n e ops Q (⟨some d, .slice T x lo hi none, ty, pos, after, none⟩ :: rest) w := ⟨fun a H => by
  obtain ⟨v', hr, R'⟩ := run_slice_any (P := P) (o := ⟨some d, .slice T x lo hi none, ty, pos, after, none⟩) rfl hT (H.eval hx) (opt_lo H hlo) (opt_hi H hhi) R h0 h1 h2
  have hl : ((xs.drop l.toNat).take (h - l).toNat).length = (h - l).toNat := by simp; omega
  have RI : PartT v xs v' ((xs.drop l.toNat).take (h - l).toNat) := fun w' hI => ⟨by rw [hl, flat_drop_take]; exact R' w' hI.1, fun y hy => hI.2 y (List.mem_of_mem_drop (List.mem_of_mem_take hy))⟩
  exact r_val rfl (hr w) ((hk v' RI).go _ (H.put hd v'))⟩

/-- The first part of owned ints is owned. -/
theorem run_sliceOwn {T E B : TypeId} {a : Act} {o : Oper} {hi : Operand} {h : Int} {kk : IntKind} {xs : List Int} (hop : o.op = .slice T x none (some hi) none) (hT : SlT P T E 1 8 (.int .i64 0)) (hx : a.eval x = v) (hh : a.eval hi = .int kk h)
    (A : Ent.ok B w (ient E v xs)) (h0 : 0 ≤ h) (h2 : h ≤ xs.length) : ∃ v', (execOp a.eval o).run P w = .ok (.value v') w ∧ Ent.ok B w (ient E v' (xs.take h.toNat)) ∧ blk v' = blk v := by
  obtain ⟨inf, hinf, hz0, hz1, hz2⟩ := info_parts hT.inf
  obtain ⟨H, rfl⟩ := Int.eq_ofNat_of_zero_le h0
  have hA := A
  simp only [ient, Ent.ok] at hA
  obtain ⟨⟨hlen, hown⟩, hn⟩ := hA
  have hsl : (Instr.sliceAt T v (none : Option Value) (some (.int kk (H : Int))) none).run P w = (Instr.slice T v none (some (.int kk (H : Int))) none).run P w := by
    simp [Instr.sliceAt, Sem.run_bind, run_underlying hT.und]
  have hb : ∀ cap : Nat, xs.length ≤ cap → (Instr.sliceBounds true xs.length cap none (some (.int kk (H : Int))) none).run P w = .ok (0, H, cap) w := fun cap hc => by
    have h1 : ¬ cap < H := by omega
    have h2 : (H : Int) ≤ cap := by omega
    simp [Instr.sliceBounds, Instr.sliceBound, asIntOf, h1, h2]
  unfold execOp
  simp only [hop, hx, hh, Option.map_none, Option.map_some]
  rcases hown with ⟨rfl, h3⟩ | ⟨g, cap, cur, rfl, hB, hg, hnc, hcm, hcs, htake⟩
  · have hz : xs.length = 0 := by simpa using h3
    have hH : H = 0 := by omega
    subst hH
    have hxs : xs = [] := List.eq_nil_of_length_eq_zero hz
    subst hxs
    refine ⟨.slice none 0 0, ?_, by simpa [ient] using A, rfl⟩
    have := hb 0 (by simp)
    have h00 : ((0 : Nat) : Int) = 0 := rfl
    rw [h00] at hsl
    simp at this
    simp [hsl, Instr.slice, run_underlying hT.und, Sem.run_bind, this, Result.andThen, sizeOf, typeInfo, hinf]
  · refine ⟨.slice (some ⟨g, 0, none⟩) H cap, ?_, ?_, rfl⟩
    · have := hb cap hnc
      simp [hsl, Instr.slice, run_underlying hT.und, Sem.run_bind, this, Result.andThen, sizeOf, typeInfo, hinf, hz1, Addr.add_lit]
    · simp only [ient, Ent.ok, Int.toNat_natCast]
      have hl : (xs.take H).length = H := by simp; omega
      rw [hl]
      refine ⟨⟨by simp; omega, .inr ⟨g, cap, cur, rfl, hB, hg, by omega, hcm, hcs, ?_⟩⟩, by omega⟩
      rw [List.map_take, ← htake, List.take_take]
      congr 1; omega
theorem u_sliceOwn {T E : TypeId} {hi : Operand} {h : Int} {kk : IntKind} {xs : List Int} (hT : SlT P T E 1 8 (.int .i64 0)) (hx : opE e x = some v) (hh : opE e hi = some (.int kk h))
    (A : Acc w0 w (ient E v xs) F) (h0 : 0 ≤ h) (h2 : h ≤ xs.length) (hd : Nat.blt d n = true)
    (hk : ∀ v', Sep w0 (F (ient E v' (xs.take h.toNat))) w → UL P n ((d, v') :: e) ops Q rest w) : UL P n e ops Q (⟨some d, .slice T x none (some hi) none, ty, pos, after, none⟩ :: rest) w := ⟨fun a H => by
  obtain ⟨v', hr, hok, hb⟩ := run_sliceOwn (P := P) (o := ⟨some d, .slice T x none (some hi) none, ty, pos, after, none⟩) rfl hT (H.eval hx) (H.eval hh) A.ok h0 h2
  exact r_val rfl hr ((hk v' (A.upd w _ (World.grownBy.refl _ _) hok fun k hk => .inl (by show blk v = some k; rw [← hb]; exact hk))).go _ (H.put hd v'))⟩

end
theorem st_byte : SlT Try.prog 22 5 1 1 (.int .u8 0) := ⟨by kernel_rfl, by kernel_rfl, rfl, by decide, by decide⟩
theorem t_byte : Try.prog.underlying 5 = some (.int .u8) := by kernel_rfl
theorem t_bytes : Try.prog.underlying 22 = some (.slice 5) := by kernel_rfl
theorem fd_rd0 : FdT Try.prog 60 0 0 := by unfold FdT; kernel_rfl
theorem fd_rd1 : FdT Try.prog 60 1 1 := by unfold FdT; kernel_rfl
theorem bt_rd {v : Value} (h : ∃ a m c, v = .slice a m c) : Try.prog.built 60 [(0, v)] = some [v, .int .i64 0].toArray := by
  obtain ⟨a, m, c, rfl⟩ := h
  kernel_rfl
end Go.Proofs.Ytjbedonncjppfaa
