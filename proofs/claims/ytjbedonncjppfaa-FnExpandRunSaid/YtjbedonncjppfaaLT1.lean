/-
  Laws of the least cost.
-/
import Derived.Test.YtjbedonncjppfaaDraw2
import Derived.Test.YtjbedonncjppfaaPureQ
import Derived.Test.YtjbedonncjppfaaC7
namespace Go.Proofs.Ytjbedonncjppfaa
set_option linter.unusedVariables false
set_option linter.unusedSimpArgs false
set_option linter.unnecessarySimpa false
open Go.RowKit

theorem parseLeast_up (xs : List Int) : parseLeast xs ≤ 1000000000 := by
  unfold parseLeast
  split
  · rename_i h
    have := (ctab_gi xs xs.length 0).2
    have := (listOk_iff.1 h).1
    omega
  · omega
section
variable {P : Program} {n : Nat} {e : List (Nat × Value)} {Q : Exit → Act → World → Prop} {w : World} {ops : Array Oper} {rest : List Oper} {C : World → Prop} {d : Nat} {ty : TypeId} {pos : String} {after : Array Edge} {x : Operand} {v : Value}
theorem um_partI {T E : TypeId} {lo hi : Option Operand} {l h : Int} {xs : List Int} {wb : World} (hT : SlT P T E 1 8 (.int .i64 0)) (hx : opE e x = some v)
    (hlo : (lo = none ∧ l = 0) ∨ ∃ k, lo.bind (opE e) = some (.int k l)) (hhi : (hi = none ∧ h = xs.length) ∨ ∃ k, hi.bind (opE e) = some (.int k h))
    (R : Rd wb 1 v xs.length (xs.map (Value.int .i64))) (h0 : 0 ≤ l) (h1 : l ≤ h) (h2 : h ≤ xs.length) (hd : Nat.blt d n = true)
    (hk : ∀ v', PartI v xs v' ((xs.drop l.toNat).take (h - l).toNat) → UM P n ((d, v') :: e) ops C Q rest w) : UM P n e ops C Q (⟨some d, .slice T x lo hi none, ty, pos, after, none⟩ :: rest) w := ⟨fun a H => by
  obtain ⟨v', hr, R'⟩ := run_slice_any (P := P) (o := ⟨some d, .slice T x lo hi none, ty, pos, after, none⟩) rfl hT (H.eval hx) (opt_lo H hlo) (opt_hi H hhi) R h0 h1 h2
  have hl : ((xs.drop l.toNat).take (h - l).toNat).length = (h - l).toNat := by simp; omega
  have RI : PartI v xs v' ((xs.drop l.toNat).take (h - l).toNat) := fun w' hI => ⟨by rw [hl, List.map_take, List.map_drop]; simpa using R' w' hI.1, fun y hy => hI.2 y (List.mem_of_mem_drop (List.mem_of_mem_take hy))⟩
  unfold wpMix
  rw [if_pos (by rfl), if_neg (by simp [isEff])]
  exact ⟨v', fun w' _ => hr w', (hk v' RI).go _ (H.put hd v')⟩⟩
end
end Go.Proofs.Ytjbedonncjppfaa
