/-
  Further steps over an environment: struct literals.
-/
import Derived.Test.YtjbedonncjppfaaCals
namespace Go.Proofs.Ytjbedonncjppfaa
set_option linter.unusedVariables false
set_option linter.unusedSimpArgs false
set_option linter.unnecessarySimpa false
open Go.RowKit

section
variable {P : Program} {n : Nat} {e : List (Nat × Value)} {Q Q' : Exit → Act → World → Prop} {w w0 : World} {ops : Array Oper} {rest : List Oper} {C : World → Prop} {K : Act → Prop}
variable {op : Op} {d : Nat} {ty : TypeId} {pos : String} {after : Array Edge} {v u : Value} {L : List Ent} {F : Ent → List Ent}
variable {x y c : Operand} {t1 t2 : TypeId} {m k : Int} {dst : Option Tmp} {g : Option (Nat × Bool)}
def evps (e : List (Nat × Value)) : List (Nat × Operand) → Option (List (Nat × Value))
  | [] => some []
  | (i, x) :: xs => match opE e x, evps e xs with
    | some v, some vs => some ((i, v) :: vs)
    | _, _ => none
theorem Holds.evps {a : Act} (H : Holds n e a) : ∀ {xs : List (Nat × Operand)} {vs : List (Nat × Value)}, evps e xs = some vs → (xs.map fun (i, x) => (i, a.eval x)) = vs
  | [], vs, h => by simp only [Proofs.Ytjbedonncjppfaa.evps, Option.some.injEq] at h; subst h; rfl
  | (i, x) :: xs, vs, h => by
    simp only [Proofs.Ytjbedonncjppfaa.evps] at h
    split at h
    · rename_i v us h1 h2
      simp only [Option.some.injEq] at h
      rw [← h, List.map_cons, H.evps h2]
      show (i, a.eval x) :: us = _
      rw [H.eval h1]
    · cases h
theorem x_build {T : TypeId} {ps : List (Nat × Operand)} {vs : List (Nat × Value)} {us : List Value} (hp : evps e ps = some vs) (hb : P.built T vs = some us.toArray) : Ex P n e C ⟨dst, .build T ps.toArray, ty, pos, after, g⟩ (.agg us.toArray) := ⟨fun a H w _ => by
  have h1 := run_build (P := P) w T vs.toArray us.toArray (by simpa using hb)
  have h2 : (ps.toArray.map fun (i, x) => (i, a.eval x)) = vs.toArray := by
    rw [← H.evps hp]; simp
  unfold execOp
  simp only [h2, Sem.run_bind, h1, Result.andThen_ok, Sem.run_pure]⟩
end
theorem bt_sym (n : Int) : Try.prog.built 27 [(0, .int .i64 n)] = some (tcs ⟨n, 0, 0⟩).toArray := by kernel_rfl
theorem bt_match (b m : Int) : Try.prog.built 27 [(1, .int .i64 b), (2, .int .i64 m)] = some (tcs ⟨0, b, m⟩).toArray := by kernel_rfl
theorem bt_nil : Try.prog.built 27 [] = some (tcs ⟨0, 0, 0⟩).toArray := by kernel_rfl
end Go.Proofs.Ytjbedonncjppfaa
