/-
  Slices of tokens: three ints each.
-/
import Derived.Test.YtjbedonncjppfaaRules4
namespace Go.Proofs.Ytjbedonncjppfaa
set_option linter.unusedVariables false
set_option linter.unusedSimpArgs false
set_option linter.unnecessarySimpa false
open Go.RowKit

/-- A token as cells. -/
def tcs (t : Tok) : List Value := [.int .i64 t.s, .int .i64 t.b, .int .i64 t.m]
def flat (ts : List Tok) : List Value := ts.flatMap tcs
def gt (ts : List Tok) (i : Int) : Tok := ts.getD i.toNat ⟨0, 0, 0⟩
def TokI (t : Tok) : Prop := I64 t.s ∧ I64 t.b ∧ I64 t.m
def AllT (ts : List Tok) : Prop := ∀ t ∈ ts, TokI t
/-- A slice of tokens. -/
def Toks (w : World) (v : Value) (ts : List Tok) : Prop := Rd w 3 v ts.length (flat ts) ∧ AllT ts
/-- Owned tokens. -/
def tent (E : TypeId) (v : Value) (ts : List Tok) : Ent := ⟨false, v, E, 3, ts.length, flat ts⟩

theorem tcs_length (t : Tok) : (tcs t).length = 3 := rfl
theorem flat_cons (t : Tok) (ts : List Tok) : flat (t :: ts) = tcs t ++ flat ts := by simp [flat]
theorem flat_append (ts us : List Tok) : flat (ts ++ us) = flat ts ++ flat us := by simp [flat]
theorem flat_length : ∀ ts : List Tok, (flat ts).length = ts.length * 3
  | [] => rfl
  | t :: ts => by rw [flat_cons, List.length_append, flat_length ts, tcs_length, List.length_cons]; omega
theorem flat_one (ts : List Tok) : ∀ u ∈ flat ts, u.oneCell' = true := by
  intro u hu
  obtain ⟨t, _, ht⟩ := List.mem_flatMap.1 hu
  simp only [tcs, List.mem_cons, List.mem_nil_iff, or_false] at ht
  rcases ht with rfl | rfl | rfl <;> rfl
theorem tcs_one (t : Tok) : ∀ u ∈ tcs t, u.oneCell' = true := by
  intro u ht
  simp only [tcs, List.mem_cons, List.mem_nil_iff, or_false] at ht
  rcases ht with rfl | rfl | rfl <;> rfl

theorem flat_drop : ∀ (ts : List Tok) (i : Nat), i < ts.length → ∃ rest, (flat ts).drop (i * 3) = tcs (ts.getD i ⟨0, 0, 0⟩) ++ rest
  | t :: ts, 0, _ => ⟨flat ts, by rw [flat_cons]; rfl⟩
  | t :: ts, i + 1, h => by
    obtain ⟨rest, hr⟩ := flat_drop ts i (by simpa using h)
    refine ⟨rest, ?_⟩
    rw [flat_cons, show (i + 1) * 3 = (tcs t).length + i * 3 by rw [tcs_length]; omega, List.drop_append, List.drop_eq_nil_of_le (by omega)]
    simp [hr]

theorem flat_at {ts : List Tok} {i : Nat} (h : i < ts.length) : ((flat ts).drop (i * 3)).take 3 = tcs (ts.getD i ⟨0, 0, 0⟩) := by
  obtain ⟨rest, hr⟩ := flat_drop ts i h
  rw [hr]
  simp [tcs]

theorem flat_set : ∀ (ts : List Tok) (i : Nat) (t : Tok), i < ts.length → over (flat ts) (i * 3) (tcs t) = flat (ts.set i t)
  | u :: ts, 0, t, _ => by simp [over, flat_cons, tcs]
  | u :: ts, i + 1, t, h => by
    have ih := flat_set ts i t (by simpa using h)
    rw [List.set_cons_succ, flat_cons, flat_cons, ← ih]
    have e : (i + 1) * 3 = (tcs u).length + i * 3 := by rw [tcs_length]; omega
    simp only [over, e, tcs_length]
    rw [List.take_append, List.drop_append]
    simp [tcs_length, Nat.add_assoc, List.take_of_length_le (show (tcs u).length ≤ 3 + i * 3 by rw [tcs_length]; omega), List.drop_eq_nil_of_le (show (tcs u).length ≤ 3 + (i * 3 + 3) by rw [tcs_length]; omega)]

section
variable {P : Program} {ops : Array Oper} {Q : Exit → Act → World → Prop} {a : Act} {w w0 : World} {rest : List Oper} {o : Oper} {L : List Ent} {F : Ent → List Ent}

theorem Toks.rd {v : Value} {ts : List Tok} (h : Toks w v ts) : Rd w 3 v ts.length (flat ts) := h.1
theorem Sep.toks (S : Sep w0 L w) {v : Value} {ts : List Tok} (h : Toks w0 v ts) : Toks w v ts := ⟨S.rd h.1, h.2⟩
theorem Toks.rdS {v : Value} {ts : List Tok} (h : Toks w0 v ts) (S : Sep w0 L w) : Rd w 3 v ts.length (flat ts) := (S.toks h).1
theorem Acc.toks {E : TypeId} {v : Value} {ts : List Tok} (A : Acc w0 w (tent E v ts) F) : Rd w 3 v ts.length (flat ts) := Ent.rd A.ok
theorem Sep.t0 {E : TypeId} {v : Value} {ts : List Tok} (S : Sep w0 (tent E v ts :: L) w) (h : AllT ts) : Toks w v ts := ⟨S.a0.toks, h⟩
theorem Sep.t1 {E : TypeId} {p : Ent} {v : Value} {ts : List Tok} (S : Sep w0 (p :: tent E v ts :: L) w) (h : AllT ts) : Toks w v ts := ⟨S.a1.toks, h⟩
theorem Sep.t2 {E : TypeId} {p q : Ent} {v : Value} {ts : List Tok} (S : Sep w0 (p :: q :: tent E v ts :: L) w) (h : AllT ts) : Toks w v ts := ⟨S.a2.toks, h⟩
theorem Sep.t3 {E : TypeId} {p q r : Ent} {v : Value} {ts : List Tok} (S : Sep w0 (p :: q :: r :: tent E v ts :: L) w) (h : AllT ts) : Toks w v ts := ⟨S.a3.toks, h⟩

theorem adr_tok {v : Value} {ts : List Tok} {k : Nat} (R : Rd w 3 v ts.length (flat ts)) (h : k < ts.length) : Adr w (elem v (k * 3)) (tcs (ts.getD k ⟨0, 0, 0⟩)) := by
  have := R.adr k h
  rwa [flat_at h] at this

theorem adr_part {A : Value} {us : List Value} {v : Value} {k f : Nat} {u : Value} (hA : A = elem v k) (R : Adr w A us) (hu : us[f]? = some u) : Adr w (elem v (k + f)) [u] := by
  subst hA
  obtain ⟨b, o', he, hc⟩ := R
  have key : elem v (k + f) = .pointer (some ⟨b, o' + f, none⟩) := by
    cases v with
    | slice a0 n c =>
      cases a0 with
      | none => cases he
      | some A =>
        simp only [elem, Value.pointer.injEq, Option.some.injEq] at he ⊢
        obtain ⟨bb, oo, ss⟩ := A
        cases ss with
        | none => simp only [Addr.add_lit, Addr.mk.injEq] at he ⊢; obtain ⟨rfl, rfl, _⟩ := he; simp [Nat.add_assoc]
        | some s =>
          by_cases hk : k = 0
          · simp [Addr.add, hk] at he
          · simp [Addr.add, hk] at he ⊢; obtain ⟨rfl, rfl⟩ := he; simp [Nat.add_assoc]
    | pointer a0 =>
      cases a0 with
      | none => cases he
      | some A =>
        simp only [elem, Value.pointer.injEq, Option.some.injEq] at he ⊢
        obtain ⟨bb, oo, ss⟩ := A
        cases ss with
        | none => simp only [Addr.add_lit, Addr.mk.injEq] at he ⊢; obtain ⟨rfl, rfl, _⟩ := he; simp [Nat.add_assoc]
        | some s =>
          by_cases hk : k = 0
          · simp [Addr.add, hk] at he
          · simp [Addr.add, hk] at he ⊢; obtain ⟨rfl, rfl⟩ := he; simp [Nat.add_assoc]
    | _ => cases he
  refine ⟨b, o' + f, key, fun j u' hu' => ?_⟩
  cases j with
  | zero =>
    simp only [List.getElem?_cons_zero, Option.some.injEq] at hu'
    subst hu'
    have := hc f u hu
    simpa using this
  | succ j => simp at hu'

theorem r_loadTok (hw : Region.wanted o (yielded ops a.tmps) = true) {E : TypeId} {z : Value} {x : Operand} {v : Value} {ts : List Tok} {k : Nat} (hop : o.op = .load E x)
    (hE : StT P E z 3) (hx : a.eval x = elem v (k * 3)) (R : Rd w 3 v ts.length (flat ts)) (hk : k < ts.length)
    (h : wpList P ops Q rest (a.put o.dst (.agg (tcs (gt ts (k : Int))).toArray)) w) : wpList P ops Q (o :: rest) a w :=
  r_loadAgg hw hop hE hx (adr_tok R hk) rfl (by simpa [gt] using h)

theorem r_storeTok (hw : Region.wanted o (yielded ops a.tmps) = true) {E : TypeId} {ad x : Operand} {v : Value} {ts : List Tok} {k : Nat} {t : Tok} (hop : o.op = .store E ad x) (hE : (P.info? E).map (·.size) = some 3)
    (hA : a.eval ad = elem v (k * 3)) (hx : a.eval x = .agg (tcs t).toArray) (A : Acc w0 w (tent E v ts) F) (hk : k < ts.length)
    (h : ∀ w', Sep w0 (F (tent E v (ts.set k t))) w' → wpList P ops Q rest (a.put o.dst undef) w') : wpList P ops Q (o :: rest) a w := by
  have hl := flat_length ts
  refine r_store (y := tent E v ts) (us := tcs t) (k := k * 3) hw hop hE hA hx (by simp [Value.cells]) (tcs_one t) ?_ (by simp [tcs]) A fun w' S => h w' ?_
  · show k * 3 + 3 ≤ (flat ts).length
    omega
  · have : over (flat ts) (k * 3) (tcs t) = flat (ts.set k t) := flat_set ts k t hk
    simpa [tent, Ent.with, this] using S

theorem flat_replicate (n : Nat) : flat (List.replicate n ⟨0, 0, 0⟩) = (madeCells (Value.cells (.agg #[.int .i64 0, .int .i64 0, .int .i64 0])) (n * 3)).toList := by
  have hc : Value.cells (.agg #[.int .i64 0, .int .i64 0, .int .i64 0]) = #[.int .i64 0, .int .i64 0, .int .i64 0] := rfl
  rw [hc]
  have h1 : flat (List.replicate n ⟨0, 0, 0⟩) = List.replicate (n * 3) (.int .i64 0) := by
    induction n with
    | zero => rfl
    | succ n ih =>
      rw [List.replicate_succ, flat_cons, ih, show (n + 1) * 3 = 3 + n * 3 by omega, ← List.replicate_append_replicate]
      rfl
  rw [h1]
  apply List.ext_getElem?
  intro j
  by_cases hj : j < n * 3
  · have h3 : j % 3 = 0 ∨ j % 3 = 1 ∨ j % 3 = 2 := by omega
    rcases h3 with h3 | h3 | h3 <;> simp [madeCells, hj, h3]
  · simp [madeCells, hj]

theorem r_makeTok (hw : Region.wanted o (yielded ops a.tmps) = true) {T E : TypeId} {l c : Operand} {n : Int} (hop : o.op = .makeSlice T l c) (hT : SlT P T E 3 24 (.agg #[.int .i64 0, .int .i64 0, .int .i64 0])) (hl : a.eval l = .int .i64 n) (hc : a.eval c = .int .i64 n) (h0 : 0 ≤ n) (hn : n ≤ 1099511627776) (S : Sep w0 L w)
    (h : ∀ v w', Sep w0 (tent E v (List.replicate n.toNat ⟨0, 0, 0⟩) :: L) w' → wpList P ops Q rest (a.put o.dst v) w') : wpList P ops Q (o :: rest) a w := by
  obtain ⟨m, rfl⟩ := Int.eq_ofNat_of_zero_le h0
  obtain ⟨v, w', hr, hb, hok⟩ := run_make (P := P) (w := w) hop hT hl hc (by omega)
  refine r_valw hw hr (h v w' (S.add hb ?_))
  rw [← flat_replicate] at hok
  simpa [tent] using hok

/-- A token appended. -/
theorem r_app1Tok {o2 : Oper} (hw : Region.wanted o (yielded ops a.tmps) = true) (hw2 : ∀ t, Region.wanted o2 (yielded ops (a.put o.dst t).tmps) = true) {T E : TypeId} {s x x2 : Operand} {t : Tok} {v : Value} {ts : List Tok}
    (hop : o.op = .buildSlice T 1 #[(0, x)]) (hop2 : o2.op = .call { callee := .builtin .append, args := #[s, x2], argTypes := #[T, T] }) (hT : SlT P T E 3 24 (.agg #[.int .i64 0, .int .i64 0, .int .i64 0]))
    (hm : a.eval x = .agg (tcs t).toArray) (hs : ∀ t, (a.put o.dst t).eval s = v) (hx : ∀ t, (a.put o.dst t).eval x2 = t) (A : Acc w0 w (tent E v ts) F) (hn : ts.length + 1 ≤ 1099511627776)
    (h : ∀ u v' w', Sep w0 (F (tent E v' (ts ++ [t]))) w' → wpList P ops Q rest ((a.put o.dst u).put o2.dst v') w') : wpList P ops Q (o :: o2 :: rest) a w := by
  have e : madeCells (Value.cells (.agg #[.int .i64 0, .int .i64 0, .int .i64 0])) (1 * 3) = #[.int .i64 0, .int .i64 0, .int .i64 0] := Array.toList_inj.1 (by rw [← flat_replicate 1]; rfl)
  refine r_app1 (cells := (tcs t).toArray) hw hw2 hop hop2 hT (by rw [e]; simp [hm, tcs, Instr.fill, Value.cells]) rfl (by omega) (by simpa using tcs_one t) hs hx A hn fun u v' w' S => h u v' w' ?_
  simpa [tent, flat_append, flat] using S

theorem r_lit0Tok (hw : Region.wanted o (yielded ops a.tmps) = true) {T E : TypeId} (hop : o.op = .buildSlice T 0 #[]) (hT : SlT P T E 3 24 (.agg #[.int .i64 0, .int .i64 0, .int .i64 0])) (S : Sep w0 L w)
    (h : ∀ v w', Sep w0 (tent E v [] :: L) w' → wpList P ops Q rest (a.put o.dst v) w') : wpList P ops Q (o :: rest) a w := by
  obtain ⟨v, w1, hr, hb, hok⟩ := run_lit (P := P) (w := w) (cells := #[]) hop hT (by simp [Instr.fill, madeCells]) (by simp) (by simp) (by omega)
  exact r_valw hw hr (h v w1 (S.add hb (by simpa [tent, flat] using hok)))

end
end Go.Proofs.Ytjbedonncjppfaa
