/-
  Plain operations in a region that draws its order and only reads.
-/
import Derived.Test.YtdaadockbceflaaRules3
namespace Go.Proofs.Ytdaadockbceflaa
set_option linter.unusedVariables false
set_option linter.unusedSimpArgs false
set_option linter.unnecessarySimpa false
open Go.RowKit

section
variable {P : Program} {ops : Array Oper} {a : Act} {w : World} {rest : List Oper} {o : Oper} {C : World → Prop} {Qq : Act → Prop} {x y c : Operand} {t1 t2 : TypeId} {m n : Int} {b : Bool} {v : Value}

theorem run_move (hop : o.op = .move x) : (execOp a.eval o).run P w = .ok (.value (a.eval x)) w := by unfold execOp; simp [hop]
theorem run_assign (hop : o.op = .assign x) : (execOp a.eval o).run P w = .ok (.value (a.eval x)) w := by unfold execOp; simp [hop]
theorem run_pick (hop : o.op = .pick c x y) (hc : a.eval c = .bool b) : (execOp a.eval o).run P w = .ok (.value (if b then a.eval x else a.eval y)) w := by
  unfold execOp; simp [hop, hc, asBool]
theorem run_not (hop : o.op = .unOp .not t1 x) (hx : a.eval x = .bool b) : (execOp a.eval o).run P w = .ok (.value (.bool (!b))) w := by
  unfold execOp; simp [hop, hx, Op.unary]

theorem run_lss (hop : o.op = .binOp .lss t1 x y t2) (hx : a.eval x = .int .i64 m) (hy : a.eval y = .int .i64 n) : (execOp a.eval o).run P w = .ok (.value (.bool (decide (m < n)))) w := by
  unfold execOp; simp [hop, hx, hy, eqGuard, binOp, Op.intCmp]
theorem run_leq (hop : o.op = .binOp .leq t1 x y t2) (hx : a.eval x = .int .i64 m) (hy : a.eval y = .int .i64 n) : (execOp a.eval o).run P w = .ok (.value (.bool (decide (m ≤ n)))) w := by
  unfold execOp; simp [hop, hx, hy, eqGuard, binOp, Op.intCmp]
theorem run_gtr (hop : o.op = .binOp .gtr t1 x y t2) (hx : a.eval x = .int .i64 m) (hy : a.eval y = .int .i64 n) : (execOp a.eval o).run P w = .ok (.value (.bool (decide (n < m)))) w := by
  unfold execOp; simp [hop, hx, hy, eqGuard, binOp, Op.intCmp]
theorem run_geq (hop : o.op = .binOp .geq t1 x y t2) (hx : a.eval x = .int .i64 m) (hy : a.eval y = .int .i64 n) : (execOp a.eval o).run P w = .ok (.value (.bool (decide (n ≤ m)))) w := by
  unfold execOp; simp [hop, hx, hy, eqGuard, binOp, Op.intCmp]
theorem run_eql (hop : o.op = .binOp .eql t1 x y t2) (hx : a.eval x = .int .i64 m) (hy : a.eval y = .int .i64 n) : (execOp a.eval o).run P w = .ok (.value (.bool (m == n))) w := by
  unfold execOp; simp [hop, hx, hy, eqGuard, binOp, Op.intCmp]
theorem run_neq (hop : o.op = .binOp .neq t1 x y t2) (hx : a.eval x = .int .i64 m) (hy : a.eval y = .int .i64 n) : (execOp a.eval o).run P w = .ok (.value (.bool (m != n))) w := by
  unfold execOp; simp [hop, hx, hy, eqGuard, binOp, Op.intCmp]
theorem run_add (hop : o.op = .binOp .add t1 x y t2) (hx : a.eval x = .int .i64 m) (hy : a.eval y = .int .i64 n) (hb : -9223372036854775808 ≤ m + n ∧ m + n ≤ 9223372036854775807) : (execOp a.eval o).run P w = .ok (.value (.int .i64 (m + n))) w := by
  have h := IntWalk.i64_in _ hb
  unfold execOp; simp [hop, hx, hy, eqGuard, binOp, Op.intArith, h]
theorem run_sub (hop : o.op = .binOp .sub t1 x y t2) (hx : a.eval x = .int .i64 m) (hy : a.eval y = .int .i64 n) (hb : -9223372036854775808 ≤ m - n ∧ m - n ≤ 9223372036854775807) : (execOp a.eval o).run P w = .ok (.value (.int .i64 (m - n))) w := by
  have h := IntWalk.i64_in _ hb
  unfold execOp; simp [hop, hx, hy, eqGuard, binOp, Op.intArith, h]
theorem run_mul (hop : o.op = .binOp .mul t1 x y t2) (hx : a.eval x = .int .i64 m) (hy : a.eval y = .int .i64 n) (hb : -9223372036854775808 ≤ m * n ∧ m * n ≤ 9223372036854775807) : (execOp a.eval o).run P w = .ok (.value (.int .i64 (m * n))) w := by
  have h := IntWalk.i64_in _ hb
  unfold execOp; simp [hop, hx, hy, eqGuard, binOp, Op.intArith, h]

variable (hw : Region.wanted o (yielded ops a.tmps) = true)
include hw
theorem q_move (hop : o.op = .move x) (hv : a.eval x = v) (h : wpQuiet P ops C Qq rest (a.put o.dst v)) : wpQuiet P ops C Qq (o :: rest) a := q_val hw (fun _ _ => run_move hop) (hv ▸ h)
theorem q_assign (hop : o.op = .assign x) (hv : a.eval x = v) (h : wpQuiet P ops C Qq rest (a.put o.dst v)) : wpQuiet P ops C Qq (o :: rest) a := q_val hw (fun _ _ => run_assign hop) (hv ▸ h)
theorem q_pickT (hop : o.op = .pick c x y) (hc : a.eval c = .bool true) (hv : a.eval x = v) (h : wpQuiet P ops C Qq rest (a.put o.dst v)) : wpQuiet P ops C Qq (o :: rest) a := q_val hw (fun _ _ => run_pick hop hc) (by simpa [hv] using h)
theorem q_pickF (hop : o.op = .pick c x y) (hc : a.eval c = .bool false) (hv : a.eval y = v) (h : wpQuiet P ops C Qq rest (a.put o.dst v)) : wpQuiet P ops C Qq (o :: rest) a := q_val hw (fun _ _ => run_pick hop hc) (by simpa [hv] using h)
theorem q_not (hop : o.op = .unOp .not t1 x) (hx : a.eval x = .bool b) {b' : Bool} (hb : (!b) = b') (h : wpQuiet P ops C Qq rest (a.put o.dst (.bool b'))) : wpQuiet P ops C Qq (o :: rest) a := q_val hw (fun _ _ => run_not hop hx) (hb ▸ h)
theorem q_lss (hop : o.op = .binOp .lss t1 x y t2) (hx : a.eval x = .int .i64 m) (hy : a.eval y = .int .i64 n) (hb : decide (m < n) = b) (h : wpQuiet P ops C Qq rest (a.put o.dst (.bool b))) : wpQuiet P ops C Qq (o :: rest) a := q_val hw (fun _ _ => run_lss hop hx hy) (hb ▸ h)
theorem q_leq (hop : o.op = .binOp .leq t1 x y t2) (hx : a.eval x = .int .i64 m) (hy : a.eval y = .int .i64 n) (hb : decide (m ≤ n) = b) (h : wpQuiet P ops C Qq rest (a.put o.dst (.bool b))) : wpQuiet P ops C Qq (o :: rest) a := q_val hw (fun _ _ => run_leq hop hx hy) (hb ▸ h)
theorem q_gtr (hop : o.op = .binOp .gtr t1 x y t2) (hx : a.eval x = .int .i64 m) (hy : a.eval y = .int .i64 n) (hb : decide (n < m) = b) (h : wpQuiet P ops C Qq rest (a.put o.dst (.bool b))) : wpQuiet P ops C Qq (o :: rest) a := q_val hw (fun _ _ => run_gtr hop hx hy) (hb ▸ h)
theorem q_geq (hop : o.op = .binOp .geq t1 x y t2) (hx : a.eval x = .int .i64 m) (hy : a.eval y = .int .i64 n) (hb : decide (n ≤ m) = b) (h : wpQuiet P ops C Qq rest (a.put o.dst (.bool b))) : wpQuiet P ops C Qq (o :: rest) a := q_val hw (fun _ _ => run_geq hop hx hy) (hb ▸ h)
theorem q_eql (hop : o.op = .binOp .eql t1 x y t2) (hx : a.eval x = .int .i64 m) (hy : a.eval y = .int .i64 n) (hb : (m == n) = b) (h : wpQuiet P ops C Qq rest (a.put o.dst (.bool b))) : wpQuiet P ops C Qq (o :: rest) a := q_val hw (fun _ _ => run_eql hop hx hy) (hb ▸ h)
theorem q_neq (hop : o.op = .binOp .neq t1 x y t2) (hx : a.eval x = .int .i64 m) (hy : a.eval y = .int .i64 n) (hb : (m != n) = b) (h : wpQuiet P ops C Qq rest (a.put o.dst (.bool b))) : wpQuiet P ops C Qq (o :: rest) a := q_val hw (fun _ _ => run_neq hop hx hy) (hb ▸ h)
theorem q_add (hop : o.op = .binOp .add t1 x y t2) (hx : a.eval x = .int .i64 m) (hy : a.eval y = .int .i64 n) (hb : -9223372036854775808 ≤ m + n ∧ m + n ≤ 9223372036854775807) (h : wpQuiet P ops C Qq rest (a.put o.dst (.int .i64 (m + n)))) : wpQuiet P ops C Qq (o :: rest) a := q_val hw (fun _ _ => run_add hop hx hy hb) h
theorem q_sub (hop : o.op = .binOp .sub t1 x y t2) (hx : a.eval x = .int .i64 m) (hy : a.eval y = .int .i64 n) (hb : -9223372036854775808 ≤ m - n ∧ m - n ≤ 9223372036854775807) (h : wpQuiet P ops C Qq rest (a.put o.dst (.int .i64 (m - n)))) : wpQuiet P ops C Qq (o :: rest) a := q_val hw (fun _ _ => run_sub hop hx hy hb) h
theorem q_mul (hop : o.op = .binOp .mul t1 x y t2) (hx : a.eval x = .int .i64 m) (hy : a.eval y = .int .i64 n) (hb : -9223372036854775808 ≤ m * n ∧ m * n ≤ 9223372036854775807) (h : wpQuiet P ops C Qq rest (a.put o.dst (.int .i64 (m * n)))) : wpQuiet P ops C Qq (o :: rest) a := q_val hw (fun _ _ => run_mul hop hx hy hb) h
end
end Go.Proofs.Ytdaadockbceflaa
