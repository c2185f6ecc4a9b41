/-
  Calls and tokens in a region that draws its order.
-/
import Derived.Test.YtjbedonncjppfaaRules5
import Derived.Test.YtjbedonncjppfaaPure3
namespace Go.Proofs.Ytjbedonncjppfaa
set_option linter.unusedVariables false
set_option linter.unusedSimpArgs false
set_option linter.unnecessarySimpa false
open Go.RowKit

section
variable {P : Program} {ops : Array Oper} {a : Act} {w w0 : World} {rest : List Oper} {o : Oper} {L : List Ent} {C : World → Prop} {Qq : Act → Prop} {F : Ent → List Ent}

theorem below_then {w w' w'' : World} (h : Below w.heap.size w w') (hb : Below w'.heap.size w' w'') : Below w.heap.size w w'' :=
  h.trans ⟨hb.os, hb.tape, hb.output, hb.size, fun k hk => hb.block k (Nat.lt_of_lt_of_le hk h.size)⟩

/-- A callee that leaves what was there as it was. -/
theorem q_callC (hw : Region.wanted o (yielded ops a.tmps) = true) (hC : ∀ w', C w' → Below w.heap.size w w') (hC' : ∀ w', Below w.heap.size w w' → C w') {f : FuncId} {xs : Array Operand} {T : Array TypeId} {args : Array Value} {v : Value} {fn : Func}
    (hf : P.funcs[f]? = some fn) (hname : (fn.name == "runtime.NumGoroutine") = false) {cd : Code} (hbd : fn.body = some cd) (hop : o.op = .call { callee := .value (.func f), args := xs, argTypes := T }) (hargs : xs.map a.eval = args)
    (hc : ∀ w', Below w.heap.size w w' → Calls P f args w' fun e w'' => e = .returned v ∧ Below w'.heap.size w' w'')
    (h : wpQuiet P ops C Qq rest (a.put o.dst v)) : wpQuiet P ops C Qq (o :: rest) a :=
  BigFrame.wpQuiet_want hw fun _ hK => ⟨v, fun w' hc' => by
    unfold Oper.quietAt
    have hr : (execOp a.eval o).run P w' = .ok (.enter f args) w' := by
      have h1 : fn.name ≠ "runtime.NumGoroutine" := by simpa using hname
      have e : (execOp a.eval o) = callFunc f args := by
        rw [← hargs]
        obtain ⟨dst, op, ty, pos, after, guard⟩ := o
        cases hop
        show callFunc f (#[] ++ xs.map a.eval ++ #[]) = _
        simp
      rw [e]
      simp [callFunc, hf, h1, hbd]
    rw [hr]
    exact ⟨rfl, (hc w' (hC w' hc')).mono fun e w'' ⟨he, hb⟩ => ⟨he, hC' _ (below_then (hC w' hc') hb)⟩⟩, hK _ h⟩

theorem same_above (w : World) : ∀ w', Below w.heap.size w w' → Below w.heap.size w w' := fun _ h => h

theorem Toks.rdQ {v : Value} {ts : List Tok} (h : Toks w v ts) : ∀ w', Below w.heap.size w w' → Rd w' 3 v ts.length (flat ts) := fun _ hb => h.1.kept fun k _ hk => hb.block k hk
theorem Toks.rdSQ {v : Value} {ts : List Tok} (h : Toks w0 v ts) (S : Sep w0 L w) : ∀ w', Below w.heap.size w w' → Rd w' 3 v ts.length (flat ts) := fun _ hb => ((S.ext hb).toks h).1
theorem Acc.toksQ {E : TypeId} {v : Value} {ts : List Tok} (A : Acc w0 w (tent E v ts) F) : ∀ w', Below w.heap.size w w' → Rd w' 3 v ts.length (flat ts) := fun _ hb => (A.ext hb).toks

theorem q_loadTokC (hw : Region.wanted o (yielded ops a.tmps) = true) {E : TypeId} {z : Value} {x : Operand} {v : Value} {ts : List Tok} {k : Nat} (hC : ∀ w', C w' → Below w.heap.size w w') (hop : o.op = .load E x)
    (hE : StT P E z 3) (hx : a.eval x = elem v (k * 3)) (R : ∀ w', Below w.heap.size w w' → Rd w' 3 v ts.length (flat ts)) (hk : k < ts.length)
    (h : wpQuiet P ops C Qq rest (a.put o.dst (.agg (tcs (gt ts (k : Int))).toArray))) : wpQuiet P ops C Qq (o :: rest) a :=
  q_loadAggC hw hC hop hE hx (fun w' hb => adr_tok (R w' hb) hk) rfl (by simpa [gt] using h)

theorem adr_tokG {v : Value} {ts : List Tok} {k : Nat} {t : Tok} (R : Rd w 3 v ts.length (flat ts)) (h : k < ts.length) (ht : Hid (ts.getD k ⟨0, 0, 0⟩ = t)) : Adr w (elem v (k * 3)) (tcs t) := by
  have := adr_tok R h
  rwa [ht.out] at this

theorem r_loadTokG {Q : Exit → Act → World → Prop} (hw : Region.wanted o (yielded ops a.tmps) = true) {E : TypeId} {z : Value} {x : Operand} {v : Value} {ts : List Tok} {k : Nat} {t : Tok} (hop : o.op = .load E x)
    (hE : StT P E z 3) (hx : a.eval x = elem v (k * 3)) (R : Rd w 3 v ts.length (flat ts)) (hk : k < ts.length) (ht : Hid (ts.getD k ⟨0, 0, 0⟩ = t))
    (h : wpList P ops Q rest (a.put o.dst (.agg (tcs t).toArray)) w) : wpList P ops Q (o :: rest) a w :=
  r_loadAgg hw hop hE hx (adr_tokG R hk ht) rfl h

theorem q_loadTokG (hw : Region.wanted o (yielded ops a.tmps) = true) {E : TypeId} {z : Value} {x : Operand} {v : Value} {ts : List Tok} {k : Nat} {t : Tok} (hC : ∀ w', C w' → Below w.heap.size w w') (hop : o.op = .load E x)
    (hE : StT P E z 3) (hx : a.eval x = elem v (k * 3)) (R : ∀ w', Below w.heap.size w w' → Rd w' 3 v ts.length (flat ts)) (hk : k < ts.length) (ht : Hid (ts.getD k ⟨0, 0, 0⟩ = t))
    (h : wpQuiet P ops C Qq rest (a.put o.dst (.agg (tcs t).toArray))) : wpQuiet P ops C Qq (o :: rest) a :=
  q_loadAggC hw hC hop hE hx (fun w' hb => adr_tokG (R w' hb) hk ht) rfl h

/-- A fresh token. -/
theorem r_allocTok {Q : Exit → Act → World → Prop} (hw : Region.wanted o (yielded ops a.tmps) = true) {E : TypeId} (hop : o.op = .alloc E) (hz : (P.info? E).map (·.zero) = some (some (.agg #[.int .i64 0, .int .i64 0, .int .i64 0]))) (S : Sep w0 L w)
    (h : ∀ p w', Sep w0 (bent E p [.int .i64 0, .int .i64 0, .int .i64 0] :: L) w' → wpList P ops Q rest (a.put o.dst (elem p 0)) w') : wpList P ops Q (o :: rest) a w :=
  r_alloc hw hop hz S fun p w' S' => h p w' S'

/-- An int into a field of a box. -/
theorem r_storeF {Q : Exit → Act → World → Prop} (hw : Region.wanted o (yielded ops a.tmps) = true) {E E' : TypeId} {ad x : Operand} {p : Value} {n : Int} {cs cs' : List Value} (k : Nat) (A : Acc w0 w (bent E p cs) F) (hop : o.op = .store E' ad x) (hE : (P.info? E').map (·.size) = some 1)
    (hA : a.eval ad = elem p k) (hx : a.eval x = .int .i64 n) (hk : k < cs.length) (hcs : cs.set k (.int .i64 n) = cs')
    (h : ∀ w', Sep w0 (F (bent E p cs')) w' → wpList P ops Q rest (a.put o.dst undef) w') : wpList P ops Q (o :: rest) a w :=
  r_storeBox hw hop hE hA hx rfl rfl hk A hcs h

theorem tokI_at {ts : List Tok} (h : AllT ts) (k : Nat) : TokI (ts.getD k ⟨0, 0, 0⟩) := by
  by_cases hk : k < ts.length
  · have e : ts.getD k ⟨0, 0, 0⟩ = ts[k] := by simp [List.getD, hk]
    rw [e]; exact h _ (List.getElem_mem hk)
  · have e : ts.getD k ⟨0, 0, 0⟩ = ⟨0, 0, 0⟩ := by simp [List.getD, List.getElem?_eq_none (show ts.length ≤ k by omega)]
    rw [e]; refine ⟨?_, ?_, ?_⟩ <;> (unfold I64; decide)

theorem tok_take {ts : List Tok} {k : Nat} (h : k < ts.length) : ts.take (k + 1) = ts.take k ++ [ts.getD k ⟨0, 0, 0⟩] := by
  rw [List.take_succ_eq_append_getElem h]
  simp [List.getD, h]

theorem set_copyT {ts : List Tok} {k : Nat} (h : k < ts.length) :
    (ts.take k ++ List.replicate (ts.length - k) (⟨0, 0, 0⟩ : Tok)).set k (ts.getD k ⟨0, 0, 0⟩) = ts.take (k + 1) ++ List.replicate (ts.length - (k + 1)) (⟨0, 0, 0⟩ : Tok) := by
  rw [tok_take h, List.append_assoc, List.set_append_right _ _ (by simp; omega)]
  congr 1
  have e : ts.length - k = (ts.length - (k + 1)) + 1 := by omega
  rw [e, List.replicate_succ]
  simp [Nat.min_eq_left (Nat.le_of_lt h)]

theorem toks_eq_succ {ts us : List Tok} {k : Nat} (h : k < ts.length) (h' : k < us.length) (H : ts.take k = us.take k) (he : ts.getD k ⟨0, 0, 0⟩ = us.getD k ⟨0, 0, 0⟩) : ts.take (k + 1) = us.take (k + 1) := by
  rw [tok_take h, tok_take h', H, he]

end
end Go.Proofs.Ytjbedonncjppfaa
