/-
  Walks over an environment: what the slots of a frame hold, as a list of pairs; the frame itself stays a variable.
-/
import Derived.Test.YtjbedonncjppfaaRules6
namespace Go.Proofs.Ytjbedonncjppfaa
set_option linter.unusedVariables false
set_option linter.unusedSimpArgs false
set_option linter.unnecessarySimpa false
open Go.RowKit

abbrev Env := List (Nat × Value)

def look : Nat → List (Nat × Value) → Option Value
  | _, [] => none
  | t, (k, v) :: e => bif Nat.beq t k then some v else look t e

structure Holds (n : Nat) (e : List (Nat × Value)) (a : Act) : Prop where
  size : a.tmps.size = n
  defers : a.defers = []
  get : ∀ t v, look t e = some v → a.tmps[t]? = some v

def opE (e : List (Nat × Value)) : Operand → Option Value
  | .tmp t => look t e
  | .const v => some v
  | .global g => some (.pointer (some ⟨g, 0, none⟩))
  | .func f => some (.func (.func f) #[] #[])

def evs (e : List (Nat × Value)) : List Operand → Option (List Value)
  | [] => some []
  | x :: xs => match opE e x, evs e xs with
    | some v, some vs => some (v :: vs)
    | _, _ => none

theorem Holds.eval {n : Nat} {e : List (Nat × Value)} {a : Act} (H : Holds n e a) {x : Operand} {v : Value} (h : opE e x = some v) : a.eval x = v := by
  cases x with
  | tmp t =>
    have := H.get t v h
    simp only [Act.eval, Array.getD_eq_getD_getElem?, this, Option.getD_some]
  | const u => simpa [opE, Act.eval] using h
  | global g => simpa [opE, Act.eval] using h
  | func f => simpa [opE, Act.eval] using h

theorem Holds.evs {n : Nat} {e : List (Nat × Value)} {a : Act} (H : Holds n e a) : ∀ {xs : List Operand} {vs : List Value}, evs e xs = some vs → xs.map a.eval = vs
  | [], vs, h => by simp only [Proofs.Ytjbedonncjppfaa.evs, Option.some.injEq] at h; subst h; rfl
  | x :: xs, vs, h => by
    simp only [Proofs.Ytjbedonncjppfaa.evs] at h
    split at h
    · rename_i v us h1 h2
      simp only [Option.some.injEq] at h
      rw [← h, List.map_cons, H.eval h1, H.evs h2]
    · cases h

theorem Holds.put {n : Nat} {e : List (Nat × Value)} {a : Act} (H : Holds n e a) {d : Nat} (hd : Nat.blt d n = true) (v : Value) : Holds n ((d, v) :: e) (a.put (some d) v) := by
  have hd' : d < a.tmps.size := by rw [H.size]; simpa [Nat.blt_eq] using hd
  refine ⟨by simp [Act.put, H.size], by simp [Act.put, H.defers], fun t u h => ?_⟩
  simp only [look] at h
  show (a.tmps.setIfInBounds d v)[t]? = some u
  cases hb : Nat.beq t d with
  | true =>
    rw [hb] at h
    have e1 : t = d := Nat.eq_of_beq_eq_true hb
    rw [e1, Array.getElem?_setIfInBounds_self_of_lt hd']
    simpa using h
  | false =>
    rw [hb] at h
    have e1 : t ≠ d := Nat.ne_of_beq_eq_false hb
    rw [Array.getElem?_setIfInBounds_ne (Ne.symm e1)]
    exact H.get t u h

def Sub (e0 e : List (Nat × Value)) : Prop := ∀ t v, look t e0 = some v → look t e = some v
theorem sub_nil {e : List (Nat × Value)} : Sub [] e := fun t v h => by cases h
theorem sub_cons {t : Nat} {u v : Value} {e0 e : List (Nat × Value)} (h : look t e = some u) (hu : u = v) (hs : Sub e0 e) : Sub ((t, v) :: e0) e := fun t' v' h' => by
  simp only [look] at h'
  cases hb : Nat.beq t' t with
  | true =>
    rw [hb] at h'
    have e1 : t' = t := Nat.eq_of_beq_eq_true hb
    simp only [cond_true, Option.some.injEq] at h'
    rw [e1, h, hu, h']
  | false => rw [hb] at h'; exact hs t' v' h'
theorem Holds.sub {n : Nat} {e0 e : List (Nat × Value)} {a : Act} (H : Holds n e a) (hs : Sub e0 e) : Holds n e0 a := ⟨H.size, H.defers, fun t v h => H.get t v (hs t v h)⟩

def argsE : Nat → List Value → List (Nat × Value)
  | _, [] => []
  | k, v :: l => (k, v) :: argsE (k + 1) l

theorem look_argsE : ∀ (l : List Value) (k t : Nat) (v : Value), look t (argsE k l) = some v → k ≤ t ∧ l[t - k]? = some v
  | [], k, t, v, h => by cases h
  | u :: l, k, t, v, h => by
    simp only [argsE, look] at h
    cases hb : Nat.beq t k with
    | true =>
      rw [hb] at h
      have e1 : t = k := Nat.eq_of_beq_eq_true hb
      subst e1
      simpa using h
    | false =>
      rw [hb] at h
      have e1 : t ≠ k := Nat.ne_of_beq_eq_false hb
      obtain ⟨h1, h2⟩ := look_argsE l (k + 1) t v h
      refine ⟨by omega, ?_⟩
      obtain ⟨m, rfl⟩ : ∃ m, t = k + 1 + m := ⟨t - (k + 1), by omega⟩
      rw [show k + 1 + m - k = m + 1 by omega, List.getElem?_cons_succ]
      rw [show k + 1 + m - (k + 1) = m by omega] at h2
      exact h2

theorem holds_args {n : Nat} {vs : List Value} (h : Nat.ble vs.length n = true) : Holds n (argsE 0 vs) { tmps := vs.toArray ++ Array.replicate (n - vs.toArray.size) undef, defers := [] } := by
  have h' : vs.length ≤ n := by simpa using h
  refine ⟨by simp; omega, rfl, fun t v ht => ?_⟩
  obtain ⟨_, h2⟩ := look_argsE vs 0 t v ht
  rw [Nat.sub_zero] at h2
  have hlt := (List.getElem?_eq_some_iff.1 h2).1
  dsimp only
  rw [Array.getElem?_append_left (by simpa using hlt)]
  simpa using h2

theorem Sep.only0 {w0 w : World} {L : List Ent} {x : Ent} (S : Sep w0 (x :: L) w) : Sep w0 [x] w := S.sub ((List.nil_sublist _).cons_cons x)
theorem Sep.only1 {w0 w : World} {L : List Ent} {x y : Ent} (S : Sep w0 (x :: y :: L) w) : Sep w0 [y] w := S.drop0.only0
theorem Sep.only2 {w0 w : World} {L : List Ent} {x y z : Ent} (S : Sep w0 (x :: y :: z :: L) w) : Sep w0 [z] w := S.drop0.only1
theorem Sep.only3 {w0 w : World} {L : List Ent} {x y z u : Ent} (S : Sep w0 (x :: y :: z :: u :: L) w) : Sep w0 [u] w := S.drop0.only2

theorem Sep.accAt {w0 w : World} {L : List Ent} {x : Ent} (pre : List Ent) (S : Sep w0 (pre ++ x :: L) w) : Acc w0 w x (fun y => pre ++ y :: L) :=
  ⟨S.ok x (by simp), S.below.size, fun _ _ h1 h2 h3 => ((S.perm List.perm_middle).upd h1 h2 h3).perm List.perm_middle.symm⟩
theorem Sep.a4 {w0 w : World} {L : List Ent} {p q r s x : Ent} (S : Sep w0 (p :: q :: r :: s :: x :: L) w) : Acc w0 w x (fun y => p :: q :: r :: s :: y :: L) := Sep.accAt [p, q, r, s] S
theorem Sep.a5 {w0 w : World} {L : List Ent} {p q r s t x : Ent} (S : Sep w0 (p :: q :: r :: s :: t :: x :: L) w) : Acc w0 w x (fun y => p :: q :: r :: s :: t :: y :: L) := Sep.accAt [p, q, r, s, t] S
theorem Sep.a6 {w0 w : World} {L : List Ent} {p q r s t u x : Ent} (S : Sep w0 (p :: q :: r :: s :: t :: u :: x :: L) w) : Acc w0 w x (fun y => p :: q :: r :: s :: t :: u :: y :: L) := Sep.accAt [p, q, r, s, t, u] S
theorem Sep.a7 {w0 w : World} {L : List Ent} {p q r s t u v x : Ent} (S : Sep w0 (p :: q :: r :: s :: t :: u :: v :: x :: L) w) : Acc w0 w x (fun y => p :: q :: r :: s :: t :: u :: v :: y :: L) := Sep.accAt [p, q, r, s, t, u, v] S
theorem Sep.a8 {w0 w : World} {L : List Ent} {p q r s t u v p1 x : Ent} (S : Sep w0 (p :: q :: r :: s :: t :: u :: v :: p1 :: x :: L) w) : Acc w0 w x (fun y => p :: q :: r :: s :: t :: u :: v :: p1 :: y :: L) := Sep.accAt [p, q, r, s, t, u, v, p1] S
theorem Sep.a9 {w0 w : World} {L : List Ent} {p q r s t u v p1 p2 x : Ent} (S : Sep w0 (p :: q :: r :: s :: t :: u :: v :: p1 :: p2 :: x :: L) w) : Acc w0 w x (fun y => p :: q :: r :: s :: t :: u :: v :: p1 :: p2 :: y :: L) := Sep.accAt [p, q, r, s, t, u, v, p1, p2] S
/-- One of the owned things to the front, and back. -/
theorem Sep.front {w0 w : World} {L : List Ent} {x : Ent} (pre : List Ent) (S : Sep w0 (pre ++ x :: L) w) : Sep w0 (x :: (pre ++ L)) w := S.perm List.perm_middle
theorem Sep.back {w0 w : World} {L : List Ent} {x : Ent} (pre : List Ent) (S : Sep w0 (x :: (pre ++ L)) w) : Sep w0 (pre ++ x :: L) w := S.perm List.perm_middle.symm
theorem Acc.asInts {w0 w : World} {E : TypeId} {v : Value} {xs : List Int} {F : Ent → List Ent} (A : Acc w0 w (ient E v xs) F) (h : AllI xs) : Ints w v xs := ⟨A.ints, h⟩
theorem Acc.asToks {w0 w : World} {E : TypeId} {v : Value} {ts : List Tok} {F : Ent → List Ent} (A : Acc w0 w (tent E v ts) F) (h : AllT ts) : Toks w v ts := ⟨A.toks, h⟩

/-- A callee that writes into one owned thing: its world as the callee sees it, and back. -/
theorem Sep.lend {w0 w w' : World} {x y : Ent} {F : Ent → List Ent} (A : Acc w0 w x F) (h : w.grownBy w' (blk x.v)) (hy : y.ok w0.heap.size w') (hv : y.v = x.v) : Sep w0 (F y) w' := A.upd w' y h hy fun k hk => .inl (by rw [← hv]; exact hk)

theorem allI_of {lo hi : Int} {xs : List Int} (h : allIn lo hi xs = true) (h0 : -9223372036854775808 ≤ lo) (h1 : hi ≤ 9223372036854775807) : AllI xs := fun x hx => by
  have := inB_iff.1 (List.all_eq_true.1 h x hx)
  exact ⟨by omega, by omega⟩
theorem allT_of {ts : List Tok} (h : ∀ t ∈ ts, TokI t) : AllT ts := h

/-! ### The judgements -/
structure UX (n : Nat) (e : List (Nat × Value)) (Q : Exit → Act → World → Prop) (x : Exit) (w : World) : Prop where
  go : ∀ a, Holds n e a → Q x a w
structure UW (P : Program) (n : Nat) (e : List (Nat × Value)) (c : Code) (Q : Exit → Act → World → Prop) (w : World) : Prop where
  go : ∀ a, Holds n e a → c.wp P Q a w
structure UL (P : Program) (n : Nat) (e : List (Nat × Value)) (ops : Array Oper) (Q : Exit → Act → World → Prop) (l : List Oper) (w : World) : Prop where
  go : ∀ a, Holds n e a → wpList P ops Q l a w
/-- In a region that draws its order: the operations read, in any world of a class. -/
structure UQ (P : Program) (n : Nat) (e : List (Nat × Value)) (ops : Array Oper) (C : World → Prop) (K : Act → Prop) (l : List Oper) : Prop where
  go : ∀ a, Holds n e a → wpQuiet P ops C K l a

def At (w : World) : World → Prop := fun w' => w' = w
def Bw (w : World) : World → Prop := fun w' => Below w.heap.size w w'
class Wc (C : World → Prop) (w : outParam World) : Prop where
  below : ∀ w', C w' → Below w.heap.size w w'
instance (w : World) : Wc (At w) w := ⟨fun w' h => by cases h; exact Below.refl _ _⟩
instance (w : World) : Wc (Bw w) w := ⟨fun _ h => h⟩

/-- A function with a body. -/
structure CallOk (P : Program) (f : FuncId) : Prop where
  ok : ∃ fn cd, P.funcs[f]? = some fn ∧ (fn.name == "runtime.NumGoroutine") = false ∧ fn.body = some cd

/-- An operation yields a value and changes nothing. -/
structure Ex (P : Program) (n : Nat) (e : List (Nat × Value)) (C : World → Prop) (o : Oper) (v : Value) : Prop where
  go : ∀ a, Holds n e a → ∀ w, C w → (execOp a.eval o).run P w = .ok (.value v) w

section
variable {P : Program} {n : Nat} {e : List (Nat × Value)} {Q Q' : Exit → Act → World → Prop} {w w0 : World} {ops : Array Oper} {rest : List Oper} {C : World → Prop} {K : Act → Prop}
variable {op : Op} {d : Nat} {ty : TypeId} {pos : String} {after : Array Edge} {v u : Value} {L : List Ent} {F : Ent → List Ent}

/-! ### Code -/
theorem u_enter {f : FuncId} {fn : Func} {c : Code} {vs : List Value} {R : Ending → World → Prop} (hf : P.funcs[f]? = some fn) (hb : fn.body = some c) (hn : fn.ntmps = n) (hl : Nat.ble vs.length n = true)
    (h : UW P n (argsE 0 vs) c (bodyPost P fn R) w) : Calls P f vs.toArray w R := by
  refine calls_of_wp hf hb ?_
  rw [hn]
  exact h.go _ (holds_args hl)

theorem u_seq {x y : Code} (h : UW P n e x (Exit.then (y.wp P Q) Q) w) : UW P n e (.seq x y) Q w := ⟨fun a H => wp_seq (h.go a H)⟩
theorem u_skip (h : UX n e Q .normal w) : UW P n e .skip Q w := ⟨fun a H => wp_skip (h.go a H)⟩
theorem u_exit {id : Nat} (h : UX n e Q (.exit id) w) : UW P n e (.exit id) Q w := ⟨fun a H => wp_exit (h.go a H)⟩
theorem u_ret (h : UX n e Q .ret w) : UW P n e .ret Q w := ⟨fun a H => wp_ret (h.go a H)⟩
theorem u_block {id : Nat} {c : Code} (h : UW P n e c (Exit.inBlock id Q) w) : UW P n e (.block id c) Q w := ⟨fun a H => wp_block (h.go a H)⟩
theorem u_condT {x : Operand} {c c' : Code} (hx : opE e x = some (.bool true)) (h : UW P n e c Q w) : UW P n e (.cond x c c') Q w := ⟨fun a H => wp_cond_true (H.eval hx) (h.go a H)⟩
theorem u_condF {x : Operand} {c c' : Code} (hx : opE e x = some (.bool false)) (h : UW P n e c' Q w) : UW P n e (.cond x c c') Q w := ⟨fun a H => wp_cond_false (H.eval hx) (h.go a H)⟩
theorem u_region {id : Nat} {l : List Oper} (h : UL P n e l.toArray Q l w) : UW P n e (.region id l.toArray false) Q w := ⟨fun a H => wp_region_lit (h.go a H)⟩
theorem u_quiet {id : Nat} {l : List Oper} (hm : P.follows .mixedOrders = true) (hB : Region.lexB .any l.toArray = true) (h : UQ P n e l.toArray (Bw w) (fun a' => ∀ w', Bw w w' → Q .normal a' w') l) : UW P n e (.region id l.toArray true) Q w :=
  ⟨fun a H => wp_region_below hm hB (h.go a H)⟩
theorem uq_end (S : Sep w0 L w) (h : ∀ w', Sep w0 L w' → Below w.heap.size w w' → UX n e Q .normal w') : UQ P n e ops (Bw w) (fun a' => ∀ w', Bw w w' → Q .normal a' w') [] :=
  ⟨fun a H => wpQuiet_nil fun w' hb => (h w' (S.ext hb) hb).go a H⟩
theorem u_tail {id : Nat} {l hd tl : List Oper} (k : Nat) (S : Sep w0 L w) (hm : P.follows .mixedOrders = true) (hB : Region.lexTailB .any l.toArray k = true) (hh : l.take k = hd) (ht : l.drop k = tl)
    (h : ∀ w1, Sep w0 L w1 → Below w.heap.size w w1 → UQ P n e l.toArray (At w1) (fun a' => wpList P l.toArray Q tl a' w1) hd) : UW P n e (.region id l.toArray true) Q w :=
  ⟨fun a H => wp_region_tail k hm hB (by rw [hh, ht]; exact (h w.drew S.drew (Below.refl _ _).drew).go a H)⟩
theorem ut_end {tl : List Oper} {l' : Array Oper} (h : UL P n e ops Q tl w) : UQ P n e l' (At w) (fun a' => wpList P ops Q tl a' w) [] := ⟨fun a H => wpQuiet_nil (h.go a H)⟩
theorem u_nil (h : UX n e Q .normal w) : UL P n e ops Q [] w := ⟨fun a H => wpList_nil (h.go a H)⟩

theorem ux_seq {y : Code} (h : UW P n e y Q w) : UX n e (Exit.then (y.wp P Q) Q') .normal w := ⟨fun a H => h.go a H⟩
theorem ux_seqR {K : Act → World → Prop} (h : UX n e Q .ret w) : UX n e (Exit.then K Q) .ret w := ⟨fun a H => h.go a H⟩
theorem ux_seqX {K : Act → World → Prop} {id : Nat} (h : UX n e Q (.exit id) w) : UX n e (Exit.then K Q) (.exit id) w := ⟨fun a H => h.go a H⟩
theorem ux_blkN {id : Nat} (h : UX n e Q .normal w) : UX n e (Exit.inBlock id Q) .normal w := ⟨fun a H => h.go a H⟩
theorem ux_blkR {id : Nat} (h : UX n e Q .ret w) : UX n e (Exit.inBlock id Q) .ret w := ⟨fun a H => h.go a H⟩
theorem ux_blkX {id : Nat} (h : UX n e Q .normal w) : UX n e (Exit.inBlock id Q) (.exit id) w := ⟨fun a H => by simp only [Exit.inBlock, if_true]; exact h.go a H⟩
theorem ux_blkO {id id' : Nat} (hne : Nat.beq id' id = false) (h : UX n e Q (.exit id') w) : UX n e (Exit.inBlock id Q) (.exit id') w := ⟨fun a H => by
  have : id' ≠ id := Nat.ne_of_beq_eq_false hne
  simp only [Exit.inBlock, if_neg this]; exact h.go a H⟩

/-- A loop: what holds of the slots and of the world at each round's head, under a number that each round lowers. -/
def Back (n : Nat) (Inv : Nat → List (Nat × Value) → World → Prop) (m : Nat) : Act → World → Prop := fun a w => ∃ m' e', m' < m ∧ Inv m' e' w ∧ Holds n e' a

theorem u_loop {c : Code} {Inv : Nat → List (Nat × Value) → World → Prop} {m0 : Nat} {e0 : List (Nat × Value)} (h0 : Inv m0 e0 w) (hs : Sub e0 e)
    (hr : ∀ m e w, Inv m e w → UW P n e c (Exit.then (Back n Inv m) Q) w) : UW P n e (.loop c) Q w := by
  refine ⟨fun a H b k cs => ?_⟩
  have key : ∀ m e a w, Inv m e w → Holds n e a → ∃ x a' w', Q x a' w' ∧ Arrives P (lone (b.at a (.code c :: .inLoop c :: k)) cs w) b k cs x a' w' := by
    intro m
    induction m using Nat.strongRecOn with
    | _ m ih =>
      intro e a w hI H
      obtain ⟨x, a₁, w₁, hq, harr⟩ := (hr m e w hI).go a H b (.inLoop c :: k) cs
      cases x with
      | normal =>
        obtain ⟨m', e', hlt, hI', H'⟩ := hq
        obtain ⟨e₂, a₂, w₂, hq₂, harr₂⟩ := ih m' hlt e' a₁ w₁ hI' H'
        exact ⟨e₂, a₂, w₂, hq₂, .of_steps (Steps.trans harr (.one step_inLoop)) harr₂⟩
      | exit id => exact ⟨_, a₁, w₁, hq, .pass (x := .inLoop c) rfl (fun _ _ => .inl (by simp)) harr⟩
      | goto l => exact ⟨_, a₁, w₁, hq, .pass (x := .inLoop c) rfl (fun _ _ => .inl (by simp)) harr⟩
      | ret => exact ⟨_, a₁, w₁, hq, .pass (x := .inLoop c) rfl (fun _ _ => .inl (by simp)) harr⟩
      | panic ch => exact ⟨_, a₁, w₁, hq, .pass (x := .inLoop c) rfl (fun _ _ => .inl (by simp)) harr⟩
      | outgrown => exact ⟨_, a₁, w₁, hq, .pass (x := .inLoop c) rfl (fun _ _ => .inl (by simp)) harr⟩
  obtain ⟨x, a', w', hq, harr⟩ := key m0 e0 a w h0 (H.sub hs)
  exact ⟨x, a', w', hq, .of_steps (.one step_loop) harr⟩

theorem u_back {Inv : Nat → List (Nat × Value) → World → Prop} {m m' : Nat} {e' : List (Nat × Value)} (hI : Inv m' e' w) (hm : m' < m) (hs : Sub e' e) : UX n e (Exit.then (Back n Inv m) Q) .normal w :=
  ⟨fun a H => ⟨m', e', hm, hI, H.sub hs⟩⟩

/-- Ways that meet again. -/
def Meet (n : Nat) (J : List (Nat × Value) → World → Prop) : Act → World → Prop := fun a w => ∃ e', J e' w ∧ Holds n e' a
theorem u_cut {x y : Code} (J : List (Nat × Value) → World → Prop) (h1 : UW P n e x (Exit.then (Meet n J) Q) w) (h2 : ∀ e w, J e w → UW P n e y Q w) : UW P n e (.seq x y) Q w :=
  ⟨fun a H => wp_seq (Code.wp_mono (fun ex a w q => by
    cases ex with
    | normal => obtain ⟨e', hJ, H'⟩ := q; exact (h2 e' w hJ).go a H'
    | _ => exact q) (h1.go a H))⟩
theorem ux_meet {J : List (Nat × Value) → World → Prop} {e' : List (Nat × Value)} (hJ : J e' w) (hs : Sub e' e) : UX n e (Exit.then (Meet n J) Q) .normal w := ⟨fun a H => ⟨e', hJ, H.sub hs⟩⟩

theorem ux_end1 {fn : Func} {R : Ending → World → Prop} {t : Nat} (hr : fn.results = #[.tmp t]) (ht : look t e = some v) (h : R (.returned v) w) : UX n e (bodyPost P fn R) .ret w := ⟨fun a H =>
  bodyPost_ret (v := v) (by rw [results_tmp hr, Array.getD_eq_getD_getElem?, H.get t v ht]; rfl) H.defers h⟩
theorem ux_end1N {fn : Func} {R : Ending → World → Prop} {t : Nat} (hr : fn.results = #[.tmp t]) (ht : look t e = some v) (h : R (.returned v) w) : UX n e (bodyPost P fn R) .normal w := ⟨fun a H =>
  bodyPost_end (v := v) (by rw [results_tmp hr, Array.getD_eq_getD_getElem?, H.get t v ht]; rfl) H.defers h⟩
theorem ux_end0N {fn : Func} {R : Ending → World → Prop} (hr : fn.results = #[]) (h : R (.returned (.tuple #[])) w) : UX n e (bodyPost P fn R) .normal w := ⟨fun a H =>
  bodyPost_end (v := .tuple #[]) (by rw [results_none hr]) H.defers h⟩
theorem ux_end0 {fn : Func} {R : Ending → World → Prop} (hr : fn.results = #[]) (h : R (.returned (.tuple #[])) w) : UX n e (bodyPost P fn R) .ret w := ⟨fun a H =>
  bodyPost_ret (v := .tuple #[]) (by rw [results_none hr]) H.defers h⟩
theorem ux_end2 {fn : Func} {R : Ending → World → Prop} {t s : Nat} (hr : fn.results = #[.tmp t, .tmp s]) (ht : look t e = some v) (hs : look s e = some u) (h : R (.returned (.tuple #[v, u])) w) : UX n e (bodyPost P fn R) .ret w := ⟨fun a H =>
  bodyPost_ret (v := .tuple #[v, u]) (by rw [results_tmp2 hr, Array.getD_eq_getD_getElem?, Array.getD_eq_getD_getElem?, H.get t v ht, H.get s u hs]; rfl) H.defers h⟩
theorem ux_end3 {fn : Func} {R : Ending → World → Prop} {t s r : Nat} {u2 : Value} (hr : fn.results = #[.tmp t, .tmp s, .tmp r]) (ht : look t e = some v) (hs : look s e = some u) (h2 : look r e = some u2) (h : R (.returned (.tuple #[v, u, u2])) w) : UX n e (bodyPost P fn R) .ret w := ⟨fun a H =>
  bodyPost_ret (v := .tuple #[v, u, u2]) (by simp [results, hr, H.get t v ht, H.get s u hs, H.get r u2 h2]) H.defers h⟩
theorem ux_endC {fn : Func} {R : Ending → World → Prop} {p ty sz : Nat} {z r : Value} {us : List Value} (hr : fn.results = #[.cell p ty]) (hp : look p e = some (elem r 0)) (hE : StT P ty z sz) (A : Adr w (elem r 0) us) (hl : us.length = sz) (h : R (.returned (.agg us.toArray)) w) : UX n e (bodyPost P fn R) .ret w := ⟨fun a H =>
  bodyPost_ret (v := .agg us.toArray) (res_box hr (by rw [Array.getD_eq_getD_getElem?, H.get p _ hp]; rfl) hE A hl) H.defers h⟩
theorem ux_endCT {fn : Func} {R : Ending → World → Prop} {p ty sz s : Nat} {z r : Value} {us : List Value} (hr : fn.results = #[.cell p ty, .tmp s]) (hp : look p e = some (elem r 0)) (hs : look s e = some u) (hE : StT P ty z sz) (A : Adr w (elem r 0) us) (hl : us.length = sz) (h : R (.returned (.tuple #[.agg us.toArray, u])) w) : UX n e (bodyPost P fn R) .ret w := ⟨fun a H =>
  bodyPost_ret (v := .tuple #[.agg us.toArray, u]) (by
    rw [res_box_tmp hr (by rw [Array.getD_eq_getD_getElem?, H.get p _ hp]; rfl) hE A hl, Array.getD_eq_getD_getElem?, H.get s u hs]; rfl) H.defers h⟩

/-! ### Guards and values -/
theorem gwanted {a : Act} {j : Nat} {b : Bool} {t : Nat} {o : Oper} (H : Holds n e a) (hg : o.guard = some (j, b)) (hj : (ops[j]?).bind (·.dst) = some t) {b' : Value} (hl : look t e = some b') : Region.wanted o (yielded ops a.tmps) = (match b' with | .bool c => c == b | _ => false) := by
  have h1 : yielded ops a.tmps j = (match b' with | .bool c => some c | _ => none) := by
    have h2 : ((ops[j]?).bind (·.dst)).bind (a.tmps[·]?) = some b' := by rw [hj]; exact H.get t _ hl
    unfold yielded
    rw [h2]
    cases b' <;> rfl
  unfold Region.wanted
  rw [hg]
  dsimp only
  rw [h1]
  cases b' with
  | bool c => cases b <;> cases c <;> rfl
  | _ => cases b <;> rfl

theorem wp_unguard {a : Act} {o : Oper} (hw : Region.wanted o (yielded ops a.tmps) = true) (h : wpList P ops Q ({ o with guard := none } :: rest) a w) : wpList P ops Q (o :: rest) a w := by
  unfold wpList at h ⊢
  rw [if_pos hw]
  rw [if_pos (by rfl)] at h
  exact h
theorem wq_unguard {a : Act} {o : Oper} (hw : Region.wanted o (yielded ops a.tmps) = true) (h : wpQuiet P ops C K ({ o with guard := none } :: rest) a) : wpQuiet P ops C K (o :: rest) a := by
  unfold wpQuiet at h ⊢
  rw [if_pos hw]
  rw [if_pos (by rfl)] at h
  exact h

theorem u_gT {dst : Option Tmp} {j t : Nat} {b : Bool} (hj : (ops[j]?).bind (·.dst) = some t) (hl : look t e = some (.bool b)) (h : UL P n e ops Q (⟨dst, op, ty, pos, after, none⟩ :: rest) w) : UL P n e ops Q (⟨dst, op, ty, pos, after, some (j, b)⟩ :: rest) w :=
  ⟨fun a H => wp_unguard (by rw [gwanted H rfl hj hl]; simp) (h.go a H)⟩
theorem uq_gT {dst : Option Tmp} {j t : Nat} {b : Bool} (hj : (ops[j]?).bind (·.dst) = some t) (hl : look t e = some (.bool b)) (h : UQ P n e ops C K (⟨dst, op, ty, pos, after, none⟩ :: rest)) : UQ P n e ops C K (⟨dst, op, ty, pos, after, some (j, b)⟩ :: rest) :=
  ⟨fun a H => wq_unguard (by rw [gwanted H rfl hj hl]; simp) (h.go a H)⟩
theorem u_gF {j t : Nat} {b : Bool} {x : Value} (hj : (ops[j]?).bind (·.dst) = some t) (hl : look t e = some x) (hx : (match x with | .bool c => c == b | _ => false) = false) (hd : Nat.blt d n = true) (h : UL P n ((d, undef) :: e) ops Q rest w) : UL P n e ops Q (⟨some d, op, ty, pos, after, some (j, b)⟩ :: rest) w :=
  ⟨fun a H => by
    have hw := gwanted (o := ⟨some d, op, ty, pos, after, some (j, b)⟩) (ops := ops) H rfl hj hl
    rw [hx] at hw
    unfold wpList
    rw [if_neg (by rw [hw]; decide)]
    exact h.go _ (H.put hd _)⟩
theorem uq_gF {j t : Nat} {b : Bool} {x : Value} (hj : (ops[j]?).bind (·.dst) = some t) (hl : look t e = some x) (hx : (match x with | .bool c => c == b | _ => false) = false) (hd : Nat.blt d n = true) (h : UQ P n ((d, undef) :: e) ops C K rest) : UQ P n e ops C K (⟨some d, op, ty, pos, after, some (j, b)⟩ :: rest) :=
  ⟨fun a H => by
    have hw := gwanted (o := ⟨some d, op, ty, pos, after, some (j, b)⟩) (ops := ops) H rfl hj hl
    rw [hx] at hw
    unfold wpQuiet
    rw [if_neg (by rw [hw]; decide)]
    exact h.go _ (H.put hd _)⟩

theorem u_val (ex : Ex P n e (At w) ⟨some d, op, ty, pos, after, none⟩ v) (hd : Nat.blt d n = true) (h : UL P n ((d, v) :: e) ops Q rest w) : UL P n e ops Q (⟨some d, op, ty, pos, after, none⟩ :: rest) w :=
  ⟨fun a H => r_val rfl (ex.go a H w rfl) (h.go _ (H.put hd v))⟩
theorem uq_val (ex : Ex P n e C ⟨some d, op, ty, pos, after, none⟩ v) (hd : Nat.blt d n = true) (h : UQ P n ((d, v) :: e) ops C K rest) : UQ P n e ops C K (⟨some d, op, ty, pos, after, none⟩ :: rest) :=
  ⟨fun a H => q_val rfl (fun w' hc => ex.go a H w' hc) (h.go _ (H.put hd v))⟩

theorem u_bT {b : Bool} (hb : b = true) (h : UL P n ((d, .bool true) :: e) ops Q rest w) : UL P n ((d, .bool b) :: e) ops Q rest w := hb ▸ h
theorem u_bF {b : Bool} (hb : b = false) (h : UL P n ((d, .bool false) :: e) ops Q rest w) : UL P n ((d, .bool b) :: e) ops Q rest w := hb ▸ h
theorem u_bS {b : Bool} (h1 : b = true → UL P n ((d, .bool true) :: e) ops Q rest w) (h2 : b = false → UL P n ((d, .bool false) :: e) ops Q rest w) : UL P n ((d, .bool b) :: e) ops Q rest w := by
  cases b with
  | true => exact h1 rfl
  | false => exact h2 rfl
theorem uq_bT {b : Bool} (hb : b = true) (h : UQ P n ((d, .bool true) :: e) ops C K rest) : UQ P n ((d, .bool b) :: e) ops C K rest := hb ▸ h
theorem uq_bF {b : Bool} (hb : b = false) (h : UQ P n ((d, .bool false) :: e) ops C K rest) : UQ P n ((d, .bool b) :: e) ops C K rest := hb ▸ h
theorem uq_bS {b : Bool} (h1 : b = true → UQ P n ((d, .bool true) :: e) ops C K rest) (h2 : b = false → UQ P n ((d, .bool false) :: e) ops C K rest) : UQ P n ((d, .bool b) :: e) ops C K rest := by
  cases b with
  | true => exact h1 rfl
  | false => exact h2 rfl

theorem u_call {R : Ending → World → Prop} {f : FuncId} {xs : List Operand} {T : Array TypeId} {vs : List Value} (hok : CallOk P f) (hargs : evs e xs = some vs) (hd : Nat.blt d n = true) (hc : Calls P f vs.toArray w R)
    (h : ∀ en w', R en w' → ∃ v, en = .returned v ∧ UL P n ((d, v) :: e) ops Q rest w') : UL P n e ops Q (⟨some d, .call { callee := .value (.func f), args := xs.toArray, argTypes := T }, ty, pos, after, none⟩ :: rest) w := ⟨fun a H => by
  obtain ⟨fn, cd, hf, hname, hbd⟩ := hok.ok
  refine wpList_plain rfl fun Kk hK => ?_
  unfold Oper.wp
  have hr : (execOp a.eval ⟨some d, .call { callee := .value (.func f), args := xs.toArray, argTypes := T }, ty, pos, after, none⟩).run P w = .ok (.enter f vs.toArray) w := by
    have h1 : fn.name ≠ "runtime.NumGoroutine" := by simpa using hname
    have e1 : (execOp a.eval ⟨some d, .call { callee := .value (.func f), args := xs.toArray, argTypes := T }, ty, pos, after, none⟩) = callFunc f vs.toArray := by
      show callFunc f (#[] ++ xs.toArray.map a.eval ++ #[]) = _
      simp [H.evs hargs]
    rw [e1]
    simp [callFunc, hf, h1, hbd]
  rw [hr]
  refine hc.mono fun en w' hR => ?_
  obtain ⟨v, rfl, hU⟩ := h en w' hR
  exact hK _ _ (hU.go _ (H.put hd v))⟩

/-- A call whose result is not kept. -/
theorem u_call0 {R : Ending → World → Prop} {f : FuncId} {xs : List Operand} {T : Array TypeId} {vs : List Value} (hok : CallOk P f) (hargs : evs e xs = some vs) (hc : Calls P f vs.toArray w R)
    (h : ∀ en w', R en w' → ∃ v, en = .returned v ∧ UL P n e ops Q rest w') : UL P n e ops Q (⟨none, .call { callee := .value (.func f), args := xs.toArray, argTypes := T }, ty, pos, after, none⟩ :: rest) w := ⟨fun a H => by
  obtain ⟨fn, cd, hf, hname, hbd⟩ := hok.ok
  refine wpList_plain rfl fun Kk hK => ?_
  unfold Oper.wp
  have hr : (execOp a.eval ⟨none, .call { callee := .value (.func f), args := xs.toArray, argTypes := T }, ty, pos, after, none⟩).run P w = .ok (.enter f vs.toArray) w := by
    have h1 : fn.name ≠ "runtime.NumGoroutine" := by simpa using hname
    have e1 : (execOp a.eval ⟨none, .call { callee := .value (.func f), args := xs.toArray, argTypes := T }, ty, pos, after, none⟩) = callFunc f vs.toArray := by
      show callFunc f (#[] ++ xs.toArray.map a.eval ++ #[]) = _
      simp [H.evs hargs]
    rw [e1]
    simp [callFunc, hf, h1, hbd]
  rw [hr]
  refine hc.mono fun en w' hR => ?_
  obtain ⟨v, rfl, hU⟩ := h en w' hR
  exact hK _ _ (hU.go a H)⟩

theorem uq_call {f : FuncId} {xs : List Operand} {T : Array TypeId} {vs : List Value} (hok : CallOk P f) (hargs : evs e xs = some vs) (hd : Nat.blt d n = true) 
    (hc : ∀ w', Below w.heap.size w w' → Calls P f vs.toArray w' fun en w'' => en = .returned v ∧ Below w'.heap.size w' w'')
    (h : UQ P n ((d, v) :: e) ops (Bw w) K rest) : UQ P n e ops (Bw w) K (⟨some d, .call { callee := .value (.func f), args := xs.toArray, argTypes := T }, ty, pos, after, none⟩ :: rest) := ⟨fun a H => by
  obtain ⟨fn, cd, hf, hname, hbd⟩ := hok.ok
  exact q_callC (w := w) rfl (fun _ h => h) (fun _ h => h) hf hname hbd rfl (by simp [H.evs hargs]) hc (h.go _ (H.put hd v))⟩
theorem uq_callA {f : FuncId} {xs : List Operand} {T : Array TypeId} {vs : List Value} (hok : CallOk P f) (hargs : evs e xs = some vs) (hd : Nat.blt d n = true) 
    (hc : Calls P f vs.toArray w fun en w'' => en = .returned v ∧ w = w'')
    (h : UQ P n ((d, v) :: e) ops (At w) K rest) : UQ P n e ops (At w) K (⟨some d, .call { callee := .value (.func f), args := xs.toArray, argTypes := T }, ty, pos, after, none⟩ :: rest) := ⟨fun a H => by
  obtain ⟨fn, cd, hf, hname, hbd⟩ := hok.ok
  refine BigFrame.wpQuiet_want rfl fun _ hK => ⟨v, fun w' hc' => ?_, hK _ (h.go _ (H.put hd v))⟩
  cases hc'
  unfold Oper.quietAt
  have hr : (execOp a.eval ⟨some d, .call { callee := .value (.func f), args := xs.toArray, argTypes := T }, ty, pos, after, none⟩).run P w = .ok (.enter f vs.toArray) w := by
    have h1 : fn.name ≠ "runtime.NumGoroutine" := by simpa using hname
    have e1 : (execOp a.eval ⟨some d, .call { callee := .value (.func f), args := xs.toArray, argTypes := T }, ty, pos, after, none⟩) = callFunc f vs.toArray := by
      show callFunc f (#[] ++ xs.toArray.map a.eval ++ #[]) = _
      simp [H.evs hargs]
    rw [e1]
    simp [callFunc, hf, h1, hbd]
  rw [hr]
  exact ⟨rfl, hc.mono fun en w'' ⟨he, hb⟩ => ⟨he, hb.symm⟩⟩⟩

/-! ### Operations that read -/
variable {x y c : Operand} {t1 t2 : TypeId} {m k : Int} {dst : Option Tmp} {g : Option (Nat × Bool)}
theorem x_move (hx : opE e x = some v) : Ex P n e C ⟨dst, .move x, ty, pos, after, g⟩ v := ⟨fun a H w _ => by rw [run_move rfl, H.eval hx]⟩
theorem x_assign (hx : opE e x = some v) : Ex P n e C ⟨dst, .assign x, ty, pos, after, g⟩ v := ⟨fun a H w _ => by rw [run_assign rfl, H.eval hx]⟩
theorem x_pickT (hc : opE e c = some (.bool true)) (hx : opE e x = some v) : Ex P n e C ⟨dst, .pick c x y, ty, pos, after, g⟩ v := ⟨fun a H w _ => by rw [run_pick rfl (H.eval hc), if_pos rfl, H.eval hx]⟩
theorem x_pickF (hc : opE e c = some (.bool false)) (hx : opE e y = some v) : Ex P n e C ⟨dst, .pick c x y, ty, pos, after, g⟩ v := ⟨fun a H w _ => by rw [run_pick rfl (H.eval hc), if_neg (by decide), H.eval hx]⟩
theorem x_notT (hx : opE e x = some (.bool true)) : Ex P n e C ⟨dst, .unOp .not t1 x, ty, pos, after, g⟩ (.bool false) := ⟨fun a H w _ => by rw [run_not rfl (H.eval hx)]; rfl⟩
theorem x_notF (hx : opE e x = some (.bool false)) : Ex P n e C ⟨dst, .unOp .not t1 x, ty, pos, after, g⟩ (.bool true) := ⟨fun a H w _ => by rw [run_not rfl (H.eval hx)]; rfl⟩
theorem x_extract {us : List Value} {i : Nat} (hx : opE e x = some (.tuple us.toArray)) (hu : us[i]? = some v) : Ex P n e C ⟨dst, .extract x i, ty, pos, after, g⟩ v := ⟨fun a H w _ => by
  unfold execOp; simp [H.eval hx, Instr.extract, hu]⟩
theorem x_lss (hx : opE e x = some (.int .i64 m)) (hy : opE e y = some (.int .i64 k)) : Ex P n e C ⟨dst, .binOp .lss t1 x y t2, ty, pos, after, g⟩ (.bool (decide (m < k))) := ⟨fun a H w _ => run_lss rfl (H.eval hx) (H.eval hy)⟩
theorem x_leq (hx : opE e x = some (.int .i64 m)) (hy : opE e y = some (.int .i64 k)) : Ex P n e C ⟨dst, .binOp .leq t1 x y t2, ty, pos, after, g⟩ (.bool (decide (m ≤ k))) := ⟨fun a H w _ => run_leq rfl (H.eval hx) (H.eval hy)⟩
theorem x_gtr (hx : opE e x = some (.int .i64 m)) (hy : opE e y = some (.int .i64 k)) : Ex P n e C ⟨dst, .binOp .gtr t1 x y t2, ty, pos, after, g⟩ (.bool (decide (k < m))) := ⟨fun a H w _ => run_gtr rfl (H.eval hx) (H.eval hy)⟩
theorem x_geq (hx : opE e x = some (.int .i64 m)) (hy : opE e y = some (.int .i64 k)) : Ex P n e C ⟨dst, .binOp .geq t1 x y t2, ty, pos, after, g⟩ (.bool (decide (k ≤ m))) := ⟨fun a H w _ => run_geq rfl (H.eval hx) (H.eval hy)⟩
theorem x_eql (hx : opE e x = some (.int .i64 m)) (hy : opE e y = some (.int .i64 k)) : Ex P n e C ⟨dst, .binOp .eql t1 x y t2, ty, pos, after, g⟩ (.bool (decide (m = k))) := ⟨fun a H w _ => by rw [run_eql rfl (H.eval hx) (H.eval hy)]; rfl⟩
theorem x_neq (hx : opE e x = some (.int .i64 m)) (hy : opE e y = some (.int .i64 k)) : Ex P n e C ⟨dst, .binOp .neq t1 x y t2, ty, pos, after, g⟩ (.bool (decide (m ≠ k))) := ⟨fun a H w _ => by
  rw [run_neq rfl (H.eval hx) (H.eval hy)]
  have : (m != k) = decide (m ≠ k) := by by_cases h : m = k <;> simp [h, bne]
  rw [this]⟩
theorem run_equalB {b b' : Bool} (hT : P.underlying t1 = some .bool) : (Op.equal t1 (.bool b) (.bool b')).run P w = .ok (b == b') w := by
  unfold Op.equal
  show (Op.equalIn (_ + 1) t1 (.bool b) (.bool b')).run P w = _
  unfold Op.equalIn
  rw [Sem.run_bind, run_underlying hT]
  simp
theorem x_eqlB {b b' : Bool} (hT : P.underlying t1 = some .bool) (hx : opE e x = some (.bool b)) (hy : opE e y = some (.bool b')) : Ex P n e C ⟨dst, .binOp .eql t1 x y t2, ty, pos, after, g⟩ (.bool (b == b')) := ⟨fun a H w _ => by
  unfold execOp; simp [H.eval hx, H.eval hy, eqGuard, binOp, run_equalB hT]⟩
theorem x_neqB {b b' : Bool} (hT : P.underlying t1 = some .bool) (hx : opE e x = some (.bool b)) (hy : opE e y = some (.bool b')) : Ex P n e C ⟨dst, .binOp .neq t1 x y t2, ty, pos, after, g⟩ (.bool (b != b')) := ⟨fun a H w _ => by
  unfold execOp; simp [H.eval hx, H.eval hy, eqGuard, binOp, run_equalB hT]; cases b <;> cases b' <;> rfl⟩
theorem x_neqB0 {b : Bool} (hT : P.underlying t1 = some .bool) (hx : opE e x = some (.bool b)) (hy : opE e y = some (.bool b)) : Ex P n e C ⟨dst, .binOp .neq t1 x y t2, ty, pos, after, g⟩ (.bool false) := ⟨fun a H w hc => by
  have := (x_neqB (C := C) (pos := pos) (after := after) (ty := ty) (dst := dst) (g := g) (t2 := t2) hT hx hy).go a H w hc
  simpa using this⟩
theorem x_eqlB1 {b : Bool} (hT : P.underlying t1 = some .bool) (hx : opE e x = some (.bool b)) (hy : opE e y = some (.bool b)) : Ex P n e C ⟨dst, .binOp .eql t1 x y t2, ty, pos, after, g⟩ (.bool true) := ⟨fun a H w hc => by
  have := (x_eqlB (C := C) (pos := pos) (after := after) (ty := ty) (dst := dst) (g := g) (t2 := t2) hT hx hy).go a H w hc
  simpa using this⟩
theorem x_add (hx : opE e x = some (.int .i64 m)) (hy : opE e y = some (.int .i64 k)) (hb : -9223372036854775808 ≤ m + k ∧ m + k ≤ 9223372036854775807) : Ex P n e C ⟨dst, .binOp .add t1 x y t2, ty, pos, after, g⟩ (.int .i64 (m + k)) := ⟨fun a H w _ => run_add rfl (H.eval hx) (H.eval hy) hb⟩
theorem x_sub (hx : opE e x = some (.int .i64 m)) (hy : opE e y = some (.int .i64 k)) (hb : -9223372036854775808 ≤ m - k ∧ m - k ≤ 9223372036854775807) : Ex P n e C ⟨dst, .binOp .sub t1 x y t2, ty, pos, after, g⟩ (.int .i64 (m - k)) := ⟨fun a H w _ => run_sub rfl (H.eval hx) (H.eval hy) hb⟩
theorem x_mul (hx : opE e x = some (.int .i64 m)) (hy : opE e y = some (.int .i64 k)) (hb : -9223372036854775808 ≤ m * k ∧ m * k ≤ 9223372036854775807) : Ex P n e C ⟨dst, .binOp .mul t1 x y t2, ty, pos, after, g⟩ (.int .i64 (m * k)) := ⟨fun a H w _ => run_mul rfl (H.eval hx) (H.eval hy) hb⟩
theorem x_min {T : Array TypeId} (hx : opE e x = some (.int .i64 m)) (hy : opE e y = some (.int .i64 k)) : Ex P n e C ⟨dst, .call { callee := .builtin .min, args := #[x, y], argTypes := T }, ty, pos, after, g⟩ (.int .i64 (min m k)) := ⟨fun a H w _ => run_min rfl (H.eval hx) (H.eval hy)⟩
theorem x_max {T : Array TypeId} (hx : opE e x = some (.int .i64 m)) (hy : opE e y = some (.int .i64 k)) : Ex P n e C ⟨dst, .call { callee := .builtin .max, args := #[x, y], argTypes := T }, ty, pos, after, g⟩ (.int .i64 (max m k)) := ⟨fun a H w _ => run_max rfl (H.eval hx) (H.eval hy)⟩
theorem x_len {T E : TypeId} {cnt sz bytes : Nat} {z : Value} {cs : List Value} {wb : World} (hT : SlT P T E sz bytes z) (hx : opE e x = some v) (R : Rd wb sz v cnt cs) : Ex P n e C ⟨dst, .call { callee := .builtin .len, args := #[x], argTypes := #[T] }, ty, pos, after, g⟩ (.int .i64 cnt) := ⟨fun a H w _ => run_len rfl hT (H.eval hx) R⟩
theorem x_index {T E : TypeId} {ix : Operand} {i : Int} {cnt sz bytes : Nat} {z : Value} {cs : List Value} {kk : IntKind} {wb : World} (hT : SlT P T E sz bytes z) (hx : opE e x = some v) (hi : opE e ix = some (.int kk i)) (R : Rd wb sz v cnt cs) (h0 : 0 ≤ i) (h1 : i < cnt) : Ex P n e C ⟨dst, .indexAddr T x ix, ty, pos, after, g⟩ (elem v (i.toNat * sz)) := ⟨fun a H w _ => run_index rfl hT (H.eval hx) (H.eval hi) R h0 h1⟩
theorem x_loadInt [hC : Wc C w] {E : TypeId} {xs : List Int} {i : Int} (hE : P.underlying E = some (.int .i64)) (hx : opE e x = some (elem v (i.toNat * 1))) (R : Rd w 1 v xs.length (xs.map (Value.int .i64))) (h0 : 0 ≤ i) (h1 : i < xs.length) : Ex P n e C ⟨dst, .load E x, ty, pos, after, g⟩ (.int .i64 (gi xs i)) := ⟨fun a H w' hc =>
  run_load1 rfl (int_not_agg hE w') (H.eval hx) (adr_int (R.kept fun k _ hk => (hC.below w' hc).block k hk) h0 h1) rfl⟩
theorem adr_kept {w w' : World} {A : Value} {us : List Value} (h : Adr w A us) (hb : Below w.heap.size w w') : Adr w' A us := by
  obtain ⟨b, o, he, hc⟩ := h
  refine ⟨b, o, he, fun j u hu => ?_⟩
  have := hc j u hu
  have hlt := World.block_lt_of_cell? w _ this
  rw [World.cell?_of_block (w := w) (a := ⟨b, o + j, none⟩) (hb.block b hlt)]
  exact this
theorem x_load1 [hC : Wc C w] {E : TypeId} {A : Value} {us : List Value} (hE : P.underlying E = some (.int .i64)) (hx : opE e x = some A) (R : Adr w A us) (hu : us[0]? = some u) : Ex P n e C ⟨dst, .load E x, ty, pos, after, g⟩ u := ⟨fun a H w' hc =>
  run_load1 rfl (int_not_agg hE w') (H.eval hx) (adr_kept R (hC.below w' hc)) hu⟩
theorem x_loadAgg [hC : Wc C w] {E : TypeId} {A z : Value} {us : List Value} {sz : Nat} (hE : StT P E z sz) (hx : opE e x = some A) (R : Adr w A us) (hu : us.length = sz) : Ex P n e C ⟨dst, .load E x, ty, pos, after, g⟩ (.agg us.toArray) := ⟨fun a H w' hc =>
  run_loadAgg rfl hE (H.eval hx) (adr_kept R (hC.below w' hc)) hu⟩
theorem gt_nat {ts : List Tok} {k : Nat} : gt ts (k : Int) = ts.getD k ⟨0, 0, 0⟩ := by simp [gt]
theorem gt_at {ts : List Tok} {i : Int} : gt ts i = ts.getD i.toNat ⟨0, 0, 0⟩ := rfl
theorem x_loadTok [hC : Wc C w] {E : TypeId} {ts : List Tok} {i : Int} {z : Value} (hE : StT P E z 3) (hx : opE e x = some (elem v (i.toNat * 3))) (R : Rd w 3 v ts.length (flat ts)) (h0 : 0 ≤ i) (h1 : i < ts.length) : Ex P n e C ⟨dst, .load E x, ty, pos, after, g⟩ (.agg (tcs (gt ts i)).toArray) := ⟨fun a H w' hc =>
  run_loadAgg rfl hE (H.eval hx) (adr_kept (adr_tok R (show i.toNat < ts.length by omega)) (hC.below w' hc)) rfl⟩
/-- A field of a token in a slice. -/
theorem x_fieldTok {S f off : Nat} {ts : List Tok} {i : Int} {wb : World} (hS : FdT P S f off) (hx : opE e x = some (elem v (i.toNat * 3))) (R : Rd wb 3 v ts.length (flat ts)) (h0 : 0 ≤ i) (h1 : i < ts.length) : Ex P n e C ⟨dst, .fieldAddr S x f, ty, pos, after, g⟩ (elem v (i.toNat * 3 + off)) := ⟨fun a H w _ => run_field rfl hS (H.eval hx) (adr_tok R (show i.toNat < ts.length by omega))⟩
theorem x_loadTokF [hC : Wc C w] {E : TypeId} {ts : List Tok} {i : Int} {f : Nat} (hE : P.underlying E = some (.int .i64)) (hx : opE e x = some (elem v (i.toNat * 3 + f))) (R : Rd w 3 v ts.length (flat ts)) (h0 : 0 ≤ i) (h1 : i < ts.length) (hu : (tcs (gt ts i))[f]? = some u) : Ex P n e C ⟨dst, .load E x, ty, pos, after, g⟩ u := ⟨fun a H w' hc =>
  run_load1 rfl (int_not_agg hE w') (H.eval hx) (adr_kept (adr_part rfl (adr_tok R (show i.toNat < ts.length by omega)) hu) (hC.below w' hc)) rfl⟩
theorem x_field {S f off kk : Nat} {us : List Value} {wb : World} (hS : FdT P S f off) (hx : opE e x = some (elem v kk)) (R : Adr wb (elem v kk) us) : Ex P n e C ⟨dst, .fieldAddr S x f, ty, pos, after, g⟩ (elem v (kk + off)) := ⟨fun a H w _ => run_field rfl hS (H.eval hx) R⟩

theorem run_quo {a : Act} {o : Oper} (hop : o.op = .binOp .quo t1 x y t2) (hx : a.eval x = .int .i64 m) (hy : a.eval y = .int .i64 k) (h0 : 0 ≤ m) (h1 : 0 < k) (hb : m ≤ 9223372036854775807) : (execOp a.eval o).run P w = .ok (.value (.int .i64 (m / k))) w := by
  have hk : k ≠ 0 := by omega
  have h2 : m.tdiv k = m / k := Int.tdiv_eq_ediv_of_nonneg h0
  have h3 : 0 ≤ m / k := Int.ediv_nonneg h0 (by omega)
  have h4 : m / k ≤ m := Int.ediv_le_self _ h0
  have h := IntWalk.i64_in (m / k) (by omega)
  unfold execOp; simp [hop, hx, hy, eqGuard, binOp, Op.intDiv, hk, h2, h]
theorem run_rem {a : Act} {o : Oper} (hop : o.op = .binOp .rem t1 x y t2) (hx : a.eval x = .int .i64 m) (hy : a.eval y = .int .i64 k) (h0 : 0 ≤ m) (h1 : 0 < k) (hb : m ≤ 9223372036854775807) : (execOp a.eval o).run P w = .ok (.value (.int .i64 (m % k))) w := by
  have hk : k ≠ 0 := by omega
  have h2 : m.tmod k = m % k := Int.tmod_eq_emod_of_nonneg h0
  unfold execOp; simp [hop, hx, hy, eqGuard, binOp, Op.intDiv, hk, h2]
theorem x_quo (hx : opE e x = some (.int .i64 m)) (hy : opE e y = some (.int .i64 k)) (h0 : 0 ≤ m) (h1 : 0 < k) (hb : m ≤ 9223372036854775807) : Ex P n e C ⟨dst, .binOp .quo t1 x y t2, ty, pos, after, g⟩ (.int .i64 (m / k)) := ⟨fun a H w _ => run_quo rfl (H.eval hx) (H.eval hy) h0 h1 hb⟩
theorem x_rem (hx : opE e x = some (.int .i64 m)) (hy : opE e y = some (.int .i64 k)) (h0 : 0 ≤ m) (h1 : 0 < k) (hb : m ≤ 9223372036854775807) : Ex P n e C ⟨dst, .binOp .rem t1 x y t2, ty, pos, after, g⟩ (.int .i64 (m % k)) := ⟨fun a H w _ => run_rem rfl (H.eval hx) (H.eval hy) h0 h1 hb⟩
theorem x_shr (hx : opE e x = some (.int .i64 m)) (hy : opE e y = some (.int .i64 k)) (h0 : 0 ≤ m) (hc : 0 ≤ k) (hc' : k ≤ 63) : Ex P n e C ⟨dst, .binOp .shr t1 x y t2, ty, pos, after, g⟩ (.int .i64 (m / 2 ^ k.toNat)) := ⟨fun a H w _ => run_shr rfl (H.eval hx) (H.eval hy) h0 hc hc'⟩
theorem x_shl (hx : opE e x = some (.int .i64 m)) (hy : opE e y = some (.int .i64 k)) (hc : 0 ≤ k) (hc' : k ≤ 63) (hb : I64 (m * 2 ^ k.toNat)) : Ex P n e C ⟨dst, .binOp .shl t1 x y t2, ty, pos, after, g⟩ (.int .i64 (m * 2 ^ k.toNat)) := ⟨fun a H w _ => run_shl rfl (H.eval hx) (H.eval hy) hc hc' hb⟩

theorem ofInt_toNat {m : Int} (h0 : 0 ≤ m) (h1 : m ≤ 9223372036854775807) : (BitVec.ofInt 64 m).toNat = m.toNat := by
  rw [BitVec.toNat_ofInt]
  rw [Int.emod_eq_of_lt h0 (by omega)]
theorem run_and {a : Act} {o : Oper} (hop : o.op = .binOp .and t1 x y t2) (hx : a.eval x = .int .i64 m) (hy : a.eval y = .int .i64 k) (h0 : 0 ≤ m) (h1 : 0 ≤ k) (hb : m ≤ 9223372036854775807) (hb' : k ≤ 9223372036854775807) : (execOp a.eval o).run P w = .ok (.value (.int .i64 ((m.toNat &&& k.toNat : Nat) : Int))) w := by
  have e1 : (BitVec.ofInt 64 m &&& BitVec.ofInt 64 k).toNat = m.toNat &&& k.toNat := by rw [BitVec.toNat_and, ofInt_toNat h0 hb, ofInt_toNat h1 hb']
  have h2 : m.toNat &&& k.toNat ≤ m.toNat := Nat.and_le_left
  have h := IntWalk.i64_in ((m.toNat &&& k.toNat : Nat) : Int) (by omega)
  unfold execOp; simp only [hop, hx, hy, eqGuard, binOp, Op.intBits, IntKind.bits, e1, h]; simp; show IntKind.i64.wrap ((BitVec.ofInt 64 m &&& BitVec.ofInt 64 k).toNat : Int) = _; rw [e1]; exact h
theorem run_xor {a : Act} {o : Oper} (hop : o.op = .binOp .xor t1 x y t2) (hx : a.eval x = .int .i64 m) (hy : a.eval y = .int .i64 k) (h0 : 0 ≤ m) (h1 : 0 ≤ k) (hb : m ≤ 9223372036854775807) (hb' : k ≤ 9223372036854775807) : (execOp a.eval o).run P w = .ok (.value (.int .i64 ((m.toNat ^^^ k.toNat : Nat) : Int))) w := by
  have e1 : (BitVec.ofInt 64 m ^^^ BitVec.ofInt 64 k).toNat = m.toNat ^^^ k.toNat := by rw [BitVec.toNat_xor, ofInt_toNat h0 hb, ofInt_toNat h1 hb']
  have h2 : m.toNat ^^^ k.toNat < 2 ^ 63 := Nat.xor_lt_two_pow (by omega) (by omega)
  have h := IntWalk.i64_in ((m.toNat ^^^ k.toNat : Nat) : Int) (by omega)
  unfold execOp; simp only [hop, hx, hy, eqGuard, binOp, Op.intBits, IntKind.bits, e1, h]; simp; show IntKind.i64.wrap ((BitVec.ofInt 64 m ^^^ BitVec.ofInt 64 k).toNat : Int) = _; rw [e1]; exact h
theorem x_and (hx : opE e x = some (.int .i64 m)) (hy : opE e y = some (.int .i64 k)) (h0 : 0 ≤ m) (h1 : 0 ≤ k) (hb : m ≤ 9223372036854775807) (hb' : k ≤ 9223372036854775807) : Ex P n e C ⟨dst, .binOp .and t1 x y t2, ty, pos, after, g⟩ (.int .i64 ((m.toNat &&& k.toNat : Nat) : Int)) := ⟨fun a H w _ => run_and rfl (H.eval hx) (H.eval hy) h0 h1 hb hb'⟩
theorem x_xor (hx : opE e x = some (.int .i64 m)) (hy : opE e y = some (.int .i64 k)) (h0 : 0 ≤ m) (h1 : 0 ≤ k) (hb : m ≤ 9223372036854775807) (hb' : k ≤ 9223372036854775807) : Ex P n e C ⟨dst, .binOp .xor t1 x y t2, ty, pos, after, g⟩ (.int .i64 ((m.toNat ^^^ k.toNat : Nat) : Int)) := ⟨fun a H w _ => run_xor rfl (H.eval hx) (H.eval hy) h0 h1 hb hb'⟩

/-! ### Operations that write or make -/
theorem u_alloc {E : TypeId} {z : Value} (hz : (P.info? E).map (·.zero) = some (some z)) (S : Sep w0 L w) (hd : Nat.blt d n = true)
    (h : ∀ p w', Sep w0 (bent E p z.cells.toList :: L) w' → UL P n ((d, elem p 0) :: e) ops Q rest w') : UL P n e ops Q (⟨some d, .alloc E, ty, pos, after, none⟩ :: rest) w := ⟨fun a H => r_alloc rfl rfl hz S fun p w' S' => (h p w' S').go _ (H.put hd _)⟩
theorem u_allocTok {E : TypeId} (hz : (P.info? E).map (·.zero) = some (some (.agg #[.int .i64 0, .int .i64 0, .int .i64 0]))) (S : Sep w0 L w) (hd : Nat.blt d n = true)
    (h : ∀ p w', Sep w0 (bent E p [.int .i64 0, .int .i64 0, .int .i64 0] :: L) w' → UL P n ((d, elem p 0) :: e) ops Q rest w') : UL P n e ops Q (⟨some d, .alloc E, ty, pos, after, none⟩ :: rest) w := ⟨fun a H => r_allocTok rfl rfl hz S fun p w' S' => (h p w' S').go _ (H.put hd _)⟩
theorem u_boxAgg {E : TypeId} {us : List Value} (hx : opE e x = some (.agg us.toArray)) (S : Sep w0 L w) (hd : Nat.blt d n = true)
    (h : ∀ p w', Sep w0 (bent E p us :: L) w' → UL P n ((d, elem p 0) :: e) ops Q rest w') : UL P n e ops Q (⟨some d, .box E x, ty, pos, after, none⟩ :: rest) w := ⟨fun a H => r_boxAgg rfl rfl (H.eval hx) S fun p w' S' => (h p w' S').go _ (H.put hd _)⟩
theorem u_storeInt {E E' : TypeId} {ad : Operand} {xs : List Int} {i m : Int} (hE : (P.info? E').map (·.size) = some 1) (hA : opE e ad = some (elem v (i.toNat * 1))) (hx : opE e x = some (.int .i64 m)) (A : Acc w0 w (ient E v xs) F) (h0 : 0 ≤ i) (hi : i < xs.length)
    (h : ∀ w', Sep w0 (F (ient E v (xs.set i.toNat m))) w' → UL P n e ops Q rest w') : UL P n e ops Q (⟨none, .store E' ad x, ty, pos, after, none⟩ :: rest) w := ⟨fun a H => by
  have hA' : a.eval ad = elem v (i.toNat * 1) := H.eval hA
  refine r_store (y := ient E v xs) (us := [.int .i64 m]) (k := i.toNat) rfl rfl hE (by rw [hA', Nat.mul_one]; rfl) (H.eval hx) rfl (by simp [Value.oneCell']) (by simp [ient]; omega) (by simp) A fun w' S => (h w' ?_).go a H
  have hl : i.toNat < xs.length := by omega
  rw [over_one _ _ _ (by simpa [ient] using hl)] at S
  simpa [ient, Ent.with, List.map_set] using S⟩
theorem u_storeTok {E E' : TypeId} {ad : Operand} {ts : List Tok} {i : Int} {t : Tok} (hE : (P.info? E').map (·.size) = some 3) (hA : opE e ad = some (elem v (i.toNat * 3))) (hx : opE e x = some (.agg (tcs t).toArray)) (A : Acc w0 w (tent E v ts) F) (h0 : 0 ≤ i) (hi : i < ts.length)
    (h : ∀ w', Sep w0 (F (tent E v (ts.set i.toNat t))) w' → UL P n e ops Q rest w') : UL P n e ops Q (⟨none, .store E' ad x, ty, pos, after, none⟩ :: rest) w := ⟨fun a H =>
  r_store (y := tent E v ts) (us := tcs t) (k := i.toNat * 3) rfl rfl hE (H.eval hA) (H.eval hx) (by simp [Value.cells]) (tcs_one t) (by show i.toNat * 3 + 3 ≤ (flat ts).length; rw [flat_length]; omega) (by simp [tcs]) A fun w' S => (h w' (by
    have : over (flat ts) (i.toNat * 3) (tcs t) = flat (ts.set i.toNat t) := flat_set ts _ t (by omega)
    simpa [tent, Ent.with, this] using S)).go a H⟩
def setF (t : Tok) : Nat → Int → Tok
  | 0, m => { t with s := m }
  | 1, m => { t with b := m }
  | _, m => { t with m := m }
theorem flat_setF : ∀ (ts : List Tok) (i f : Nat) (m : Int), i < ts.length → f < 3 → (flat ts).set (i * 3 + f) (.int .i64 m) = flat (ts.set i (setF (ts.getD i ⟨0, 0, 0⟩) f m))
  | t :: ts, 0, f, m, _, hf => by
    have h3 : f = 0 ∨ f = 1 ∨ f = 2 := by omega
    rcases h3 with rfl | rfl | rfl <;> simp [flat_cons, tcs, setF]
  | t :: ts, i + 1, f, m, h, hf => by
    have ih := flat_setF ts i f m (by simpa using h) hf
    rw [List.set_cons_succ, flat_cons, flat_cons, List.getD_cons_succ, ← ih, List.set_append_right _ _ (by rw [tcs_length]; omega)]
    congr 2
    rw [tcs_length]; omega
theorem u_storeTokF {E E' : TypeId} {ad : Operand} {ts : List Tok} {i : Int} {f : Nat} (hE : (P.info? E').map (·.size) = some 1) (hA : opE e ad = some (elem v (i.toNat * 3 + f))) (hx : opE e x = some (.int .i64 m)) (A : Acc w0 w (tent E v ts) F) (h0 : 0 ≤ i) (hi : i < ts.length) (hf : f < 3)
    (h : ∀ w', Sep w0 (F (tent E v (ts.set i.toNat (setF (gt ts i) f m)))) w' → UL P n e ops Q rest w') : UL P n e ops Q (⟨none, .store E' ad x, ty, pos, after, none⟩ :: rest) w := ⟨fun a H => by
  have hl : i.toNat < ts.length := by omega
  have hfl := flat_length ts
  have hk : i.toNat * 3 + f < (flat ts).length := by omega
  refine r_store (y := tent E v ts) (us := [.int .i64 m]) (k := i.toNat * 3 + f) rfl rfl hE (H.eval hA) (H.eval hx) rfl (by simp [Value.oneCell']) (by simp [tent]; omega) (by simp) A fun w' S => (h w' ?_).go a H
  rw [over_one _ _ _ (by simpa [tent] using hk)] at S
  have : (flat ts).set (i.toNat * 3 + f) (.int .i64 m) = flat (ts.set i.toNat (setF (gt ts i) f m)) := flat_setF ts _ f m hl hf
  simpa [tent, Ent.with, this] using S⟩
theorem u_storeF {E E' : TypeId} {ad : Operand} {p : Value} {cs cs' : List Value} {kk : Nat} (hE : (P.info? E').map (·.size) = some 1) (hA : opE e ad = some (elem p kk)) (hx : opE e x = some (.int .i64 m)) (A : Acc w0 w (bent E p cs) F) (hk : kk < cs.length) (hcs : cs.set kk (.int .i64 m) = cs')
    (h : ∀ w', Sep w0 (F (bent E p cs')) w' → UL P n e ops Q rest w') : UL P n e ops Q (⟨none, .store E' ad x, ty, pos, after, none⟩ :: rest) w := ⟨fun a H => r_storeBox rfl rfl hE (H.eval hA) (H.eval hx) rfl rfl hk A hcs fun w' S => (h w' S).go a H⟩
theorem u_storeAgg {E E' : TypeId} {ad : Operand} {p : Value} {us cs : List Value} {sz : Nat} (hE : (P.info? E').map (·.size) = some sz) (hA : opE e ad = some (elem p 0)) (hx : opE e x = some (.agg us.toArray)) (hsz : us.length = sz) (h1 : us.all (·.oneCell') = true) (hp : 0 < us.length) (A : Acc w0 w (bent E p cs) F) (hk : us.length = cs.length)
    (h : ∀ w', Sep w0 (F (bent E p us)) w' → UL P n e ops Q rest w') : UL P n e ops Q (⟨none, .store E' ad x, ty, pos, after, none⟩ :: rest) w := ⟨fun a H => by
  refine r_store (y := bent E p cs) (us := us) (k := 0) rfl rfl (by rw [hE, hsz]) (H.eval hA) (H.eval hx) (by simp [Value.cells]) (by simpa using h1) (by simp [bent]; omega) hp A fun w' S => (h w' ?_).go a H
  have : over cs 0 us = us := by simp [over, hk]
  simpa [bent, Ent.with, this] using S⟩
theorem u_makeInt {T E : TypeId} {l c : Operand} {m : Int} (hT : SlT P T E 1 8 (.int .i64 0)) (hl : opE e l = some (.int .i64 m)) (hc : opE e c = some (.int .i64 m)) (h0 : 0 ≤ m) (hn : m ≤ 1099511627776) (S : Sep w0 L w) (hd : Nat.blt d n = true)
    (h : ∀ r w', Sep w0 (ient E r (List.replicate m.toNat 0) :: L) w' → UL P n ((d, r) :: e) ops Q rest w') : UL P n e ops Q (⟨some d, .makeSlice T l c, ty, pos, after, none⟩ :: rest) w := ⟨fun a H => r_makeInt rfl rfl hT (H.eval hl) (H.eval hc) h0 hn S fun r w' S' => (h r w' S').go _ (H.put hd _)⟩
theorem u_makeTok {T E : TypeId} {l c : Operand} {m : Int} (hT : SlT P T E 3 24 (.agg #[.int .i64 0, .int .i64 0, .int .i64 0])) (hl : opE e l = some (.int .i64 m)) (hc : opE e c = some (.int .i64 m)) (h0 : 0 ≤ m) (hn : m ≤ 1099511627776) (S : Sep w0 L w) (hd : Nat.blt d n = true)
    (h : ∀ r w', Sep w0 (tent E r (List.replicate m.toNat ⟨0, 0, 0⟩) :: L) w' → UL P n ((d, r) :: e) ops Q rest w') : UL P n e ops Q (⟨some d, .makeSlice T l c, ty, pos, after, none⟩ :: rest) w := ⟨fun a H => r_makeTok rfl rfl hT (H.eval hl) (H.eval hc) h0 hn S fun r w' S' => (h r w' S').go _ (H.put hd _)⟩
theorem u_lit0 {T E : TypeId} (hT : SlT P T E 1 8 (.int .i64 0)) (S : Sep w0 L w) (hd : Nat.blt d n = true)
    (h : ∀ r w', Sep w0 (ient E r [] :: L) w' → UL P n ((d, r) :: e) ops Q rest w') : UL P n e ops Q (⟨some d, .buildSlice T 0 #[], ty, pos, after, none⟩ :: rest) w := ⟨fun a H => r_lit0 rfl rfl hT S fun r w' S' => (h r w' S').go _ (H.put hd _)⟩
theorem u_lit0Tok {T E : TypeId} (hT : SlT P T E 3 24 (.agg #[.int .i64 0, .int .i64 0, .int .i64 0])) (S : Sep w0 L w) (hd : Nat.blt d n = true)
    (h : ∀ r w', Sep w0 (tent E r [] :: L) w' → UL P n ((d, r) :: e) ops Q rest w') : UL P n e ops Q (⟨some d, .buildSlice T 0 #[], ty, pos, after, none⟩ :: rest) w := ⟨fun a H => r_lit0Tok rfl rfl hT S fun r w' S' => (h r w' S').go _ (H.put hd _)⟩

variable {d2 : Nat} {ty2 : TypeId} {pos2 : String} {after2 : Array Edge}
theorem u_app1Int {T E : TypeId} {s : Operand} {xs : List Int} (hT : SlT P T E 1 8 (.int .i64 0)) (hm : opE e x = some (.int .i64 m)) (hs : opE e s = some v) (hds : (match s with | .tmp t => Nat.beq t d | _ => false) = false) (A : Acc w0 w (ient E v xs) F) (hn : xs.length + 1 ≤ 1099511627776) (hd : Nat.blt d n = true) (hd2 : Nat.blt d2 n = true)
    (h : ∀ t r w', Sep w0 (F (ient E r (xs ++ [m]))) w' → UL P n ((d2, r) :: (d, t) :: e) ops Q rest w') :
    UL P n e ops Q (⟨some d, .buildSlice T 1 #[(0, x)], ty, pos, after, none⟩ :: ⟨some d2, .call { callee := .builtin .append, args := #[s, .tmp d], argTypes := #[T, T] }, ty2, pos2, after2, none⟩ :: rest) w := ⟨fun a H => by
  have hput : ∀ t, opE ((d, t) :: e) s = some v := fun t => by
    cases s with
    | tmp j =>
      simp only at hds
      simp only [opE, look, hds] at hs ⊢
      exact hs
    | _ => exact hs
  refine r_app1Int (v := v) (xs := xs) (m := m) rfl (fun _ => rfl) rfl rfl hT (H.eval hm) (fun t => (H.put hd t).eval (hput t)) (fun t => (H.put hd t).eval (by simp only [opE, look, Nat.beq_refl, cond_true])) A hn fun t r w' S => (h t r w' S).go _ ((H.put hd t).put hd2 r)⟩
theorem u_app1Tok {T E : TypeId} {s : Operand} {ts : List Tok} {t0 : Tok} (hT : SlT P T E 3 24 (.agg #[.int .i64 0, .int .i64 0, .int .i64 0])) (hm : opE e x = some (.agg (tcs t0).toArray)) (hs : opE e s = some v) (hds : (match s with | .tmp t => Nat.beq t d | _ => false) = false) (A : Acc w0 w (tent E v ts) F) (hn : ts.length + 1 ≤ 1099511627776) (hd : Nat.blt d n = true) (hd2 : Nat.blt d2 n = true)
    (h : ∀ t r w', Sep w0 (F (tent E r (ts ++ [t0]))) w' → UL P n ((d2, r) :: (d, t) :: e) ops Q rest w') :
    UL P n e ops Q (⟨some d, .buildSlice T 1 #[(0, x)], ty, pos, after, none⟩ :: ⟨some d2, .call { callee := .builtin .append, args := #[s, .tmp d], argTypes := #[T, T] }, ty2, pos2, after2, none⟩ :: rest) w := ⟨fun a H => by
  have hput : ∀ t, opE ((d, t) :: e) s = some v := fun t => by
    cases s with
    | tmp j =>
      simp only at hds
      simp only [opE, look, hds] at hs ⊢
      exact hs
    | _ => exact hs
  refine r_app1Tok (v := v) (ts := ts) (t := t0) rfl (fun _ => rfl) rfl rfl hT (H.eval hm) (fun t => (H.put hd t).eval (hput t)) (fun t => (H.put hd t).eval (by simp only [opE, look, Nat.beq_refl, cond_true])) A hn fun t r w' S => (h t r w' S).go _ ((H.put hd t).put hd2 r)⟩
/-- Ints behind ints. -/
theorem u_appInts {T E : TypeId} {s x2 : Operand} {xs ys : List Int} (hT : SlT P T E 1 8 (.int .i64 0)) (hs : opE e s = some v) (hx : opE e x2 = some u) (A : Acc w0 w (ient E v xs) F) (R : Rd w 1 u ys.length (ys.map (Value.int .i64))) (hn : xs.length + ys.length ≤ 1099511627776) (hd : Nat.blt d n = true)
    (h : ∀ r w', Sep w0 (F (ient E r (xs ++ ys))) w' → UL P n ((d, r) :: e) ops Q rest w') :
    UL P n e ops Q (⟨some d, .call { callee := .builtin .append, args := #[s, x2], argTypes := #[T, T] }, ty, pos, after, none⟩ :: rest) w := ⟨fun a H =>
  r_appendInts rfl rfl hT (H.eval hs) A (H.eval hx) R hn fun r w' S => (h r w' S).go _ (H.put hd r)⟩
/-- A literal of ints. -/
theorem u_litInts {T E : TypeId} {cnt : Nat} {parts : List (Nat × Operand)} {xs : List Int} (hT : SlT P T E 1 8 (.int .i64 0))
    (hf : ∀ a, Holds n e a → Instr.fill (fun i => some (i * 1, 1)) (madeCells (Value.cells (.int .i64 0)) (cnt * 1)) (parts.map fun (i, x) => (i, a.eval x)) = some (xs.map (Value.int .i64)).toArray) (hl : xs.length = cnt) (hn : cnt ≤ 16777216) (S : Sep w0 L w) (hd : Nat.blt d n = true)
    (h : ∀ r w', Sep w0 (ient E r xs :: L) w' → UL P n ((d, r) :: e) ops Q rest w') : UL P n e ops Q (⟨some d, .buildSlice T cnt parts.toArray, ty, pos, after, none⟩ :: rest) w := ⟨fun a H =>
  r_litInts rfl rfl hT (by simpa using hf a H) hl hn S fun r w' S' => (h r w' S').go _ (H.put hd r)⟩
/-- A part of a slice. -/
theorem u_sliceInts {T E : TypeId} {lo hi : Option Operand} {l h : Int} {xs : List Int} {wb : World} (hT : SlT P T E 1 8 (.int .i64 0)) (hx : opE e x = some v)
    (hlo : (lo = none ∧ l = 0) ∨ ∃ k, lo.bind (opE e) = some (.int k l)) (hhi : (hi = none ∧ h = xs.length) ∨ ∃ k, hi.bind (opE e) = some (.int k h))
    (R : Ints wb v xs) (h0 : 0 ≤ l) (h1 : l ≤ h) (h2 : h ≤ xs.length) (hd : Nat.blt d n = true)
    (hk : ∀ v', Ints wb v' ((xs.drop l.toNat).take (h - l).toNat) → UL P n ((d, v') :: e) ops Q rest w) : UL P n e ops Q (⟨some d, .slice T x lo hi none, ty, pos, after, none⟩ :: rest) w := ⟨fun a H => by
  refine r_sliceInts rfl rfl hT (H.eval hx) ?_ ?_ R h0 h1 h2 fun v' R' => (hk v' R').go _ (H.put hd v')
  · rcases hlo with ⟨rfl, e1⟩ | ⟨k, e1⟩
    · exact .inl ⟨rfl, e1⟩
    · obtain ⟨o, rfl, ho⟩ := Option.bind_eq_some_iff.1 e1
      exact .inr ⟨k, by rw [Option.map_some, H.eval ho]⟩
  · rcases hhi with ⟨rfl, e1⟩ | ⟨k, e1⟩
    · exact .inl ⟨rfl, e1⟩
    · obtain ⟨o, rfl, ho⟩ := Option.bind_eq_some_iff.1 e1
      exact .inr ⟨k, by rw [Option.map_some, H.eval ho]⟩⟩
end
end Go.Proofs.Ytjbedonncjppfaa
