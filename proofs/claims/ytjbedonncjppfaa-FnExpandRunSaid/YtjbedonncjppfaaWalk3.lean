/-
  Further steps over an environment: literals of one int, shifts by counts of any kind.
-/
import Derived.Test.YtjbedonncjppfaaWalk2
namespace Go.Proofs.Ytjbedonncjppfaa
set_option linter.unusedVariables false
set_option linter.unusedSimpArgs false
set_option linter.unnecessarySimpa false
open Go.RowKit

section
variable {P : Program} {n : Nat} {e : List (Nat × Value)} {Q Q' : Exit → Act → World → Prop} {w w0 : World} {ops : Array Oper} {rest : List Oper} {C : World → Prop} {K : Act → Prop}
variable {op : Op} {d : Nat} {ty : TypeId} {pos : String} {after : Array Edge} {v u : Value} {L : List Ent} {F : Ent → List Ent}
variable {x y c : Operand} {t1 t2 : TypeId} {m k : Int} {dst : Option Tmp} {g : Option (Nat × Bool)}
theorem u_lit1 {T E : TypeId} (hT : SlT P T E 1 8 (.int .i64 0)) (hx : opE e x = some (.int .i64 m)) (S : Sep w0 L w) (hd : Nat.blt d n = true)
    (h : ∀ r w', Sep w0 (ient E r [m] :: L) w' → UL P n ((d, r) :: e) ops Q rest w') : UL P n e ops Q (⟨some d, .buildSlice T 1 #[(0, x)], ty, pos, after, none⟩ :: rest) w := ⟨fun a H =>
  r_litInts (xs := [m]) rfl rfl hT (by simp [H.eval hx, Instr.fill, Value.cells, made_one]) rfl (by omega) S fun r w' S' => (h r w' S').go _ (H.put hd r)⟩
theorem run_shlK {a : Act} {o : Oper} {kk : IntKind} (hop : o.op = .binOp .shl t1 x y t2) (hx : a.eval x = .int .i64 m) (hy : a.eval y = .int kk k) (hc : 0 ≤ k) (hc' : k ≤ 63) (hb : I64 (m * 2 ^ k.toNat)) :
    (execOp a.eval o).run P w = .ok (.value (.int .i64 (m * 2 ^ k.toNat))) w := by
  unfold execOp
  simp only [hop, hx, hy]
  have h1 : ¬ k < 0 := by omega
  have h2 : min k.toNat IntKind.i64.bits = k.toNat := by simp [IntKind.bits]; omega
  have h3 := IntWalk.i64_in _ hb
  simp [eqGuard, binOp, Op.shift, h1, h2, h3]
theorem x_shlK {kk : IntKind} (hx : opE e x = some (.int .i64 m)) (hy : opE e y = some (.int kk k)) (hc : 0 ≤ k) (hc' : k ≤ 63) (hb : I64 (m * 2 ^ k.toNat)) : Ex P n e C ⟨dst, .binOp .shl t1 x y t2, ty, pos, after, g⟩ (.int .i64 (m * 2 ^ k.toNat)) := ⟨fun a H w _ => run_shlK rfl (H.eval hx) (H.eval hy) hc hc' hb⟩
theorem run_shrK {a : Act} {o : Oper} {kk : IntKind} (hop : o.op = .binOp .shr t1 x y t2) (hx : a.eval x = .int .i64 m) (hy : a.eval y = .int kk k) (h0 : 0 ≤ m) (hc : 0 ≤ k) (hc' : k ≤ 63) :
    (execOp a.eval o).run P w = .ok (.value (.int .i64 (m / 2 ^ k.toNat))) w := by
  unfold execOp
  simp only [hop, hx, hy]
  have h1 : ¬ k < 0 := by omega
  have h2 : min k.toNat IntKind.i64.bits = k.toNat := by simp [IntKind.bits]; omega
  have h3 : m.fdiv (2 ^ k.toNat) = m / 2 ^ k.toNat := Int.fdiv_eq_ediv_of_nonneg _ (Int.le_of_lt (Int.pow_pos (by decide)))
  simp [eqGuard, binOp, Op.shift, h1, h2, h3]
theorem x_shrK {kk : IntKind} (hx : opE e x = some (.int .i64 m)) (hy : opE e y = some (.int kk k)) (h0 : 0 ≤ m) (hc : 0 ≤ k) (hc' : k ≤ 63) : Ex P n e C ⟨dst, .binOp .shr t1 x y t2, ty, pos, after, g⟩ (.int .i64 (m / 2 ^ k.toNat)) := ⟨fun a H w _ => run_shrK rfl (H.eval hx) (H.eval hy) h0 hc hc'⟩
theorem run_or {a : Act} {o : Oper} (hop : o.op = .binOp .or t1 x y t2) (hx : a.eval x = .int .i64 m) (hy : a.eval y = .int .i64 k) (h0 : 0 ≤ m) (h1 : 0 ≤ k) (hb : m ≤ 9223372036854775807) (hb' : k ≤ 9223372036854775807) : (execOp a.eval o).run P w = .ok (.value (.int .i64 ((m.toNat ||| k.toNat : Nat) : Int))) w := by
  have e1 : (BitVec.ofInt 64 m ||| BitVec.ofInt 64 k).toNat = m.toNat ||| k.toNat := by rw [BitVec.toNat_or, ofInt_toNat h0 hb, ofInt_toNat h1 hb']
  have h2 : m.toNat ||| k.toNat < 2 ^ 63 := Nat.or_lt_two_pow (by omega) (by omega)
  have h := IntWalk.i64_in ((m.toNat ||| k.toNat : Nat) : Int) (by omega)
  unfold execOp; simp only [hop, hx, hy, eqGuard, binOp, Op.intBits, IntKind.bits, e1, h]; simp; show IntKind.i64.wrap ((BitVec.ofInt 64 m ||| BitVec.ofInt 64 k).toNat : Int) = _; rw [e1]; exact h
theorem x_or (hx : opE e x = some (.int .i64 m)) (hy : opE e y = some (.int .i64 k)) (h0 : 0 ≤ m) (h1 : 0 ≤ k) (hb : m ≤ 9223372036854775807) (hb' : k ≤ 9223372036854775807) : Ex P n e C ⟨dst, .binOp .or t1 x y t2, ty, pos, after, g⟩ (.int .i64 ((m.toNat ||| k.toNat : Nat) : Int)) := ⟨fun a H w _ => run_or rfl (H.eval hx) (H.eval hy) h0 h1 hb hb'⟩
end
end Go.Proofs.Ytjbedonncjppfaa
