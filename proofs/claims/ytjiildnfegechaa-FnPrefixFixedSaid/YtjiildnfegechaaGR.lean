/-
  Groups: slices of structs of an int and a slice, boxes of slices, function values.
-/
import Derived.Test.YtjiildnfegechaaMix3
import Derived.Test.YtjiildnfegechaaPureL
namespace Go.Proofs.Ytjiildnfegechaa
set_option linter.unusedVariables false
set_option linter.unusedSimpArgs false
set_option linter.unnecessarySimpa false
open Go.RowKit

def gcs (g : Int × Value) : List Value := [.int .i64 g.1, g.2]
def gflat (gs : List (Int × Value)) : List Value := gs.flatMap gcs
def gent (E : TypeId) (v : Value) (gs : List (Int × Value)) : Ent := ⟨false, v, E, 2, gs.length, gflat gs⟩
def SV (gs : List (Int × Value)) : Prop := ∀ g ∈ gs, I64 g.1 ∧ ∃ a m c, g.2 = .slice a m c
def gAt (gs : List (Int × Value)) (i : Nat) : Int × Value := gs.getD i (0, .slice none 0 0)

theorem gflat_append (gs hs : List (Int × Value)) : gflat (gs ++ hs) = gflat gs ++ gflat hs := by simp [gflat]
theorem gflat_cons (g : Int × Value) (gs : List (Int × Value)) : gflat (g :: gs) = gcs g ++ gflat gs := by simp [gflat]
theorem gflat_length : ∀ gs : List (Int × Value), (gflat gs).length = gs.length * 2
  | [] => rfl
  | g :: gs => by rw [gflat_cons, List.length_append, gflat_length gs]; simp [gcs]; omega
theorem gflat_drop : ∀ (i : Nat) (gs : List (Int × Value)), (gflat gs).drop (i * 2) = gflat (gs.drop i)
  | 0, gs => by simp
  | i + 1, [] => by simp [gflat]
  | i + 1, g :: gs => by
    rw [List.drop_succ_cons, gflat_cons, show (i + 1) * 2 = 2 + i * 2 by omega, ← List.drop_drop]
    simp only [gcs, List.cons_append, List.nil_append, List.drop_succ_cons, List.drop_zero]
    exact gflat_drop i gs
theorem gflat_take : ∀ (i : Nat) (gs : List (Int × Value)), (gflat gs).take (i * 2) = gflat (gs.take i)
  | 0, gs => by simp [gflat]
  | i + 1, [] => by simp [gflat]
  | i + 1, g :: gs => by
    rw [List.take_succ_cons, gflat_cons, gflat_cons, show (i + 1) * 2 = (i * 2) + 1 + 1 by omega]
    simp only [gcs, List.cons_append, List.nil_append, List.take_succ_cons]
    rw [gflat_take i gs]
theorem gAt_eq {gs : List (Int × Value)} {i : Nat} (h : i < gs.length) : gAt gs i = gs[i] := by simp [gAt, List.getD, h]
theorem gflat_at {gs : List (Int × Value)} {i : Nat} (h : i < gs.length) : ((gflat gs).drop (i * 2)).take 2 = gcs (gAt gs i) := by
  rw [gflat_drop, List.drop_eq_getElem_cons h, gflat_cons, gAt_eq h]
  simp [gcs]
theorem sv_one {gs : List (Int × Value)} (h : SV gs) : ∀ u ∈ gflat gs, u.oneCell' = true := by
  intro u hu
  simp only [gflat, List.mem_flatMap] at hu
  obtain ⟨g, hg, hu⟩ := hu
  obtain ⟨_, a, m, c, e⟩ := h g hg
  simp only [gcs, List.mem_cons, List.not_mem_nil, or_false] at hu
  rcases hu with rfl | rfl
  · rfl
  · rw [e]; rfl
theorem SV.at {gs : List (Int × Value)} (h : SV gs) {i : Nat} (hi : i < gs.length) : I64 (gAt gs i).1 ∧ ∃ a m c, (gAt gs i).2 = .slice a m c := by rw [gAt_eq hi]; exact h _ (List.getElem_mem hi)
theorem SV.sub {gs hs : List (Int × Value)} (h : SV gs) (hh : ∀ g ∈ hs, g ∈ gs) : SV hs := fun g hg => h g (hh g hg)
theorem SV.app {gs hs : List (Int × Value)} (h : SV gs) (h' : SV hs) : SV (gs ++ hs) := fun g hg => by
  rcases List.mem_append.1 hg with hg | hg
  · exact h g hg
  · exact h' g hg

/-- What lies at a group. -/
theorem adr_grp {w : World} {v : Value} {gs : List (Int × Value)} {i : Nat} (R : Rd w 2 v gs.length (gflat gs)) (h : i < gs.length) : Adr w (elem v (i * 2)) (gcs (gAt gs i)) := by
  have := R.adr i h
  rwa [gflat_at h] at this
theorem Acc.grps {w0 w : World} {E : TypeId} {v : Value} {gs : List (Int × Value)} {F : Ent → List Ent} (A : Acc w0 w (gent E v gs) F) : Rd w 2 v gs.length (gflat gs) := Ent.rd A.ok

section
variable {P : Program} {n : Nat} {e : List (Nat × Value)} {Q Q' : Exit → Act → World → Prop} {w w0 : World} {ops : Array Oper} {rest : List Oper} {C : World → Prop} {K : Act → Prop}
variable {op : Op} {d : Nat} {ty : TypeId} {pos : String} {after : Array Edge} {v u : Value} {L : List Ent} {F : Ent → List Ent}
variable {x y c : Operand} {t1 t2 : TypeId} {m k : Int} {dst : Option Tmp} {g : Option (Nat × Bool)}

/-! ### Function values -/
theorem x_makeFunc {f : FuncId} {cap : List Operand} {vs : List Value} (hc : evs e cap = some vs) : Ex P n e C ⟨dst, .makeFunc (.func f) #[] cap.toArray, ty, pos, after, g⟩ (.func (.func f) #[] vs.toArray) := ⟨fun a H w _ => by
  unfold execOp
  simp [Instr.makeFunc, H.evs hc]⟩
/-- A call through a function value. -/
theorem u_callV {R : Ending → World → Prop} {f : FuncId} {xs : List Operand} {T : Array TypeId} {vs us : List Value} (hok : CallOk P f) (hx : opE e x = some (.func (.func f) #[] us.toArray)) (hargs : evs e xs = some vs) (hd : Nat.blt d n = true) (hc : Calls P f (vs ++ us).toArray w R)
    (h : ∀ en w', R en w' → ∃ v, en = .returned v ∧ UL P n ((d, v) :: e) ops Q rest w') : UL P n e ops Q (⟨some d, .call { callee := .value x, args := xs.toArray, argTypes := T }, ty, pos, after, none⟩ :: rest) w := ⟨fun a H => by
  obtain ⟨fn, cd, hf, hname, hbd⟩ := hok.ok
  refine wpList_plain rfl fun Kk hK => ?_
  unfold Oper.wp
  have hr : (execOp a.eval ⟨some d, .call { callee := .value x, args := xs.toArray, argTypes := T }, ty, pos, after, none⟩).run P w = .ok (.enter f (vs ++ us).toArray) w := by
    have h1 : fn.name ≠ "runtime.NumGoroutine" := by simpa using hname
    have hxa := H.eval hx
    have e1 : (execOp a.eval ⟨some d, .call { callee := .value x, args := xs.toArray, argTypes := T }, ty, pos, after, none⟩).run P w = (callFunc f (vs ++ us).toArray).run P w := by
      unfold execOp
      simp [resolve, hxa, Deferred.ofValue, invoke, H.evs hargs]
    rw [e1]
    simp [callFunc, hf, h1, hbd]
  rw [hr]
  refine hc.mono fun en w' hR => ?_
  obtain ⟨v, rfl, hU⟩ := h en w' hR
  exact hK _ _ (hU.go _ (H.put hd v))⟩

/-! ### Boxes of one cell, groups -/
theorem u_store1 {E E' : TypeId} {ad : Operand} {p : Value} {u u' : Value} (hE : (P.info? E').map (·.size) = some 1) (hA : opE e ad = some (elem p 0)) (hx : opE e x = some u) (hc : u.cells = #[u]) (h1 : u.oneCell' = true) (A : Acc w0 w (bent E p [u']) F)
    (h : ∀ w', Sep w0 (F (bent E p [u])) w' → UL P n e ops Q rest w') : UL P n e ops Q (⟨none, .store E' ad x, ty, pos, after, none⟩ :: rest) w := ⟨fun a H =>
  r_store (y := bent E p [u']) (us := [u]) (k := 0) rfl rfl hE (H.eval hA) (H.eval hx) (by rw [hc]) (by simpa using h1) (by simp [bent]) (by simp) A fun w' S => (h w' (by simpa [bent, Ent.with, over] using S)).go a H⟩
theorem u_lit0G {T E : TypeId} {bytes : Nat} {z : Value} (hT : SlT P T E 2 bytes z) (S : Sep w0 L w) (hd : Nat.blt d n = true)
    (h : ∀ r w', Sep w0 (gent E r [] :: L) w' → UL P n ((d, r) :: e) ops Q rest w') : UL P n e ops Q (⟨some d, .buildSlice T 0 #[], ty, pos, after, none⟩ :: rest) w := ⟨fun a H => by
  obtain ⟨r, w1, hr, hb, hok⟩ := run_lit (P := P) (w := w) (o := ⟨some d, .buildSlice T 0 #[], ty, pos, after, none⟩) (a := a) (cells := #[]) rfl hT (by simp [Instr.fill, madeCells]) (by simp) (by simp) (by omega)
  exact r_valw rfl hr ((h r w1 (S.add hb (by simpa [gent, gflat] using hok))).go _ (H.put hd r))⟩
theorem um_lit0G {T E : TypeId} {bytes : Nat} {z : Value} (hT : SlT P T E 2 bytes z) (S : Sep w0 L w) (hd : Nat.blt d n = true)
    (h : ∀ r w', Sep w0 (gent E r [] :: L) w' → C w' ∧ UM P n ((d, r) :: e) ops C Q rest w') : UM P n e ops C Q (⟨some d, .buildSlice T 0 #[], ty, pos, after, none⟩ :: rest) w := ⟨fun a H => by
  obtain ⟨r, w1, hr, hb, hok⟩ := run_lit (P := P) (w := w) (o := ⟨some d, .buildSlice T 0 #[], ty, pos, after, none⟩) (a := a) (cells := #[]) rfl hT (by simp [Instr.fill, madeCells]) (by simp) (by simp) (by omega)
  unfold wpMix
  rw [if_pos (by rfl), if_pos (by rfl), hr]
  obtain ⟨hC, hU⟩ := h r w1 (S.add hb (by simpa [gent, gflat] using hok))
  exact ⟨hC, hU.go _ (H.put hd r)⟩⟩
variable {d2 : Nat} {ty2 : TypeId} {pos2 : String} {after2 : Array Edge}
theorem u_app1G {T E : TypeId} {bytes : Nat} {z : Value} {s : Operand} {gs : List (Int × Value)} {g : Int × Value} (hT : SlT P T E 2 bytes z) (hz : ∃ z0 z1, madeCells (Value.cells z) (1 * 2) = #[z0, z1]) (hm : opE e x = some (.agg (gcs g).toArray)) (hg : SV [g]) (hs : opE e s = some v) (hds : (match s with | .tmp t => Nat.beq t d | _ => false) = false) (A : Acc w0 w (gent E v gs) F) (hn : gs.length + 1 ≤ 1099511627776) (hd : Nat.blt d n = true) (hd2 : Nat.blt d2 n = true)
    (h : ∀ t r w', Sep w0 (F (gent E r (gs ++ [g]))) w' → UL P n ((d2, r) :: (d, t) :: e) ops Q rest w') :
    UL P n e ops Q (⟨some d, .buildSlice T 1 #[(0, x)], ty, pos, after, none⟩ :: ⟨some d2, .call { callee := .builtin .append, args := #[s, .tmp d], argTypes := #[T, T] }, ty2, pos2, after2, none⟩ :: rest) w := ⟨fun a H => by
  have hput : ∀ t, opE ((d, t) :: e) s = some v := fun t => by
    cases s with
    | tmp j =>
      simp only at hds
      simp only [opE, look, hds] at hs ⊢
      exact hs
    | _ => exact hs
  obtain ⟨z0, z1, hzc⟩ := hz
  refine r_app1 (cells := (gcs g).toArray) rfl (fun _ => rfl) rfl rfl hT (by rw [hzc]; simp [H.eval hm, gcs, Instr.fill, Value.cells]) rfl (by omega) (by have := sv_one hg; simpa [gflat] using this) (fun t => (H.put hd t).eval (hput t)) (fun t => (H.put hd t).eval (by simp only [opE, look, Nat.beq_refl, cond_true])) A hn fun t r w' S => (h t r w' ?_).go _ ((H.put hd t).put hd2 r)
  simpa [gent, gflat_append, gflat] using S⟩
theorem um_appG {T E : TypeId} {bytes : Nat} {z : Value} {s x2 : Operand} {gs hs : List (Int × Value)} (hT : SlT P T E 2 bytes z) (hs' : opE e s = some v) (hx : opE e x2 = some u) (A : Acc w0 w (gent E v gs) F) (R : Rd w 2 u hs.length (gflat hs)) (h1 : SV hs) (hn : gs.length + hs.length ≤ 1099511627776) (hd : Nat.blt d n = true)
    (h : ∀ r w', Sep w0 (F (gent E r (gs ++ hs))) w' → C w' ∧ UM P n ((d, r) :: e) ops C Q rest w') :
    UM P n e ops C Q (⟨some d, .call { callee := .builtin .append, args := #[s, x2], argTypes := #[T, T] }, ty, pos, after, none⟩ :: rest) w := ⟨fun a H => by
  obtain ⟨v', w', hr, hg, hok, hk⟩ := run_append (P := P) (o := ⟨some d, .call { callee := .builtin .append, args := #[s, x2], argTypes := #[T, T] }, ty, pos, after, none⟩) rfl hT (H.eval hs') A.ok A.size (H.eval hx) R (sv_one h1) hn
  unfold wpMix
  rw [if_pos (by rfl), if_pos (by rfl), hr]
  have hS := A.upd _ _ hg hok hk
  obtain ⟨hC, hU⟩ := h v' w' (by simpa [gent, gflat_append] using hS)
  exact ⟨hC, hU.go _ (H.put hd v')⟩⟩
def PartG (v : Value) (gs : List (Int × Value)) (v' : Value) (hs : List (Int × Value)) : Prop := ∀ w, Rd w 2 v gs.length (gflat gs) → Rd w 2 v' hs.length (gflat hs)
theorem um_partG {T E : TypeId} {bytes : Nat} {z : Value} {lo hi : Option Operand} {l h : Int} {gs : List (Int × Value)} {wb : World} (hT : SlT P T E 2 bytes z) (hx : opE e x = some v)
    (hlo : (lo = none ∧ l = 0) ∨ ∃ k, lo.bind (opE e) = some (.int k l)) (hhi : (hi = none ∧ h = gs.length) ∨ ∃ k, hi.bind (opE e) = some (.int k h))
    (R : Rd wb 2 v gs.length (gflat gs)) (h0 : 0 ≤ l) (h1 : l ≤ h) (h2 : h ≤ gs.length) (hd : Nat.blt d n = true)
    (hk : ∀ v', PartG v gs v' ((gs.drop l.toNat).take (h - l).toNat) → UM P n ((d, v') :: e) ops C Q rest w) : UM P n e ops C Q (⟨some d, .slice T x lo hi none, ty, pos, after, none⟩ :: rest) w := ⟨fun a H => by
  obtain ⟨v', hr, R'⟩ := run_slice_any (P := P) (o := ⟨some d, .slice T x lo hi none, ty, pos, after, none⟩) rfl hT (H.eval hx) (opt_lo H hlo) (opt_hi H hhi) R h0 h1 h2
  have hl : ((gs.drop l.toNat).take (h - l).toNat).length = (h - l).toNat := by simp; omega
  have RI : PartG v gs v' ((gs.drop l.toNat).take (h - l).toNat) := fun w' hI => by
    rw [hl, ← gflat_take, ← gflat_drop]; exact R' w' hI
  unfold wpMix
  rw [if_pos (by rfl), if_neg (by simp [isEff])]
  exact ⟨v', fun w' _ => hr w', (hk v' RI).go _ (H.put hd v')⟩⟩
/-- A field of a group in a slice. -/
theorem x_fieldG {S f off : Nat} {gs : List (Int × Value)} {i : Int} {wb : World} (hS : FdT P S f off) (hx : opE e x = some (elem v (i.toNat * 2))) (R : Rd wb 2 v gs.length (gflat gs)) (h0 : 0 ≤ i) (h1 : i < gs.length) : Ex P n e C ⟨dst, .fieldAddr S x f, ty, pos, after, g⟩ (elem v (i.toNat * 2 + off)) := ⟨fun a H w _ => run_field rfl hS (H.eval hx) (adr_grp R (show i.toNat < gs.length by omega))⟩
theorem x_loadG0 [hC : Wc C w] {E : TypeId} {gs : List (Int × Value)} {i : Int} (hE : P.underlying E = some (.int .i64)) (hx : opE e x = some (elem v (i.toNat * 2 + 0))) (R : Rd w 2 v gs.length (gflat gs)) (h0 : 0 ≤ i) (h1 : i < gs.length) : Ex P n e C ⟨dst, .load E x, ty, pos, after, g⟩ (.int .i64 (gAt gs i.toNat).1) := ⟨fun a H w' hc =>
  run_load1 rfl (int_not_agg hE w') (H.eval hx) (adr_kept (adr_part (f := 0) rfl (adr_grp R (show i.toNat < gs.length by omega)) rfl) (hC.below w' hc)) rfl⟩
theorem x_loadG1 [hC : Wc C w] {E E' : TypeId} {gs : List (Int × Value)} {i : Int} (hE : P.underlying E = some (.slice E')) (hx : opE e x = some (elem v (i.toNat * 2 + 1))) (R : Rd w 2 v gs.length (gflat gs)) (h0 : 0 ≤ i) (h1 : i < gs.length) : Ex P n e C ⟨dst, .load E x, ty, pos, after, g⟩ (gAt gs i.toNat).2 := ⟨fun a H w' hc =>
  run_load1 rfl (slice_not_agg hE w') (H.eval hx) (adr_kept (adr_part (f := 1) rfl (adr_grp R (show i.toNat < gs.length by omega)) rfl) (hC.below w' hc)) rfl⟩
theorem x_loadGA [hC : Wc C w] {E : TypeId} {z : Value} {gs : List (Int × Value)} {i : Int} (hE : StT P E z 2) (hx : opE e x = some (elem v (i.toNat * 2))) (R : Rd w 2 v gs.length (gflat gs)) (h0 : 0 ≤ i) (h1 : i < gs.length) : Ex P n e C ⟨dst, .load E x, ty, pos, after, g⟩ (.agg (gcs (gAt gs i.toNat)).toArray) := ⟨fun a H w' hc =>
  run_loadAgg rfl hE (H.eval hx) (adr_kept (adr_grp R (show i.toNat < gs.length by omega)) (hC.below w' hc)) rfl⟩
end
theorem st_grp : SlT Try.prog 43 45 2 32 (.agg #[.int .i64 0, .slice none 0 0]) := ⟨by kernel_rfl, by kernel_rfl, rfl, by decide, by decide⟩
theorem tk_grp : StT Try.prog 45 (.agg #[.int .i64 0, .slice none 0 0]) 2 := ⟨by kernel_rfl, by kernel_rfl, rfl⟩
theorem z_grp : (Try.prog.info? 45).map (·.zero) = some (some (.agg #[.int .i64 0, .slice none 0 0])) := by kernel_rfl
theorem sz_grp : (Try.prog.info? 45).map (·.size) = some 2 := by kernel_rfl
theorem fd_grp0 : FdT Try.prog 45 0 0 := by unfold FdT; kernel_rfl
theorem fd_grp1 : FdT Try.prog 45 1 1 := by unfold FdT; kernel_rfl
theorem t_grps : Try.prog.underlying 43 = some (.slice 45) := by kernel_rfl
theorem t_ints : Try.prog.underlying 22 = some (.slice 3) := by kernel_rfl
theorem sz_grps : (Try.prog.info? 43).map (·.size) = some 1 := by kernel_rfl
theorem z_grps : (Try.prog.info? 43).map (·.zero) = some (some (.slice none 0 0)) := by kernel_rfl
theorem bt_grp {m : Int} {v : Value} (h : ∃ a n c, v = .slice a n c) : Try.prog.built 45 [(0, .int .i64 m), (1, v)] = some (gcs (m, v)).toArray := by
  obtain ⟨a, n, c, rfl⟩ := h
  kernel_rfl
theorem made_grp : ∃ z0 z1, madeCells (Value.cells (.agg #[.int .i64 0, .slice none 0 0])) (1 * 2) = #[z0, z1] := ⟨.int .i64 0, .slice none 0 0, by kernel_rfl⟩
end Go.Proofs.Ytjiildnfegechaa
