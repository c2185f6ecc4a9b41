/-
  Regions that draw their order, with operations that only read, in any order, and operations that write or call, in one order.
-/
import Derived.Test.YtjbedonncjppfaaWalk3
namespace Go.Proofs.Ytjbedonncjppfaa
set_option linter.unusedVariables false
set_option linter.unusedSimpArgs false
set_option linter.unnecessarySimpa false
open Go.RowKit

section
variable {P : Program} {ops : Array Oper} {md : Region.Mode} {C : World → Prop}

/-- An operation that writes or calls: it does not panic. -/
def stepC (P : Program) (o : Oper) (a : Act) (next : Act → World → Prop) : Result Next → Prop
  | .ok (.value v) w' => next (a.put o.dst v) w'
  | .ok .skip w' => next (a.put o.dst undef) w'
  | .ok (.enter f args) w' => Calls P f args w' fun e w'' => ∃ v, e = .returned v ∧ next (a.put o.dst v) w''
  | _ => False

theorem stepC_mono {o : Oper} {a : Act} {K K' : Act → World → Prop} (h : ∀ a w, K a w → K' a w) {r : Result Next} (hh : stepC P o a K r) : stepC P o a K' r := by
  cases r with
  | ok n w' =>
    cases n <;> simp only [stepC] at hh ⊢
    case value v => exact h _ _ hh
    case skip => exact h _ _ hh
    case enter f args => exact hh.mono fun e w'' ⟨v, he, hk⟩ => ⟨v, he, h _ _ hk⟩
  | halt x w' => simp only [stepC] at hh

def cOp (P : Program) (ops : Array Oper) (i : Nat) (K : Act → World → Prop) (a : Act) (w : World) : Prop :=
  match ops[i]? with
  | none => K a w
  | some o => if Region.wanted o (yielded ops a.tmps) then stepC P o a K ((execOp a.eval o).run P w) else K (a.put o.dst undef) w

theorem cOp_mono {i : Nat} {a : Act} {w : World} {K K' : Act → World → Prop} (h : ∀ a w, K a w → K' a w) (hh : cOp P ops i K a w) : cOp P ops i K' a w := by
  unfold cOp at *
  split
  · rename_i ho; simp only [ho] at hh; exact h _ _ hh
  · rename_i o ho
    simp only [ho] at hh
    split
    · rename_i hw; simp only [hw, if_true] at hh; exact stepC_mono h hh
    · rename_i hw; simp only [hw] at hh; exact h _ _ hh

/-- Whatever order is picked from here on, all worlds being of a class. -/
def wpAnyC (P : Program) (md : Region.Mode) (ops : Array Oper) (C : World → Prop) (Q : Act → World → Prop) : Nat → Array Bool → Act → World → Prop
  | 0, listed, a, w => Region.ready md ops listed = [] ∧ Q a w
  | fuel + 1, listed, a, w =>
    (Region.ready md ops listed = [] → Q a w) ∧
    ∀ i ∈ Region.ready md ops listed, cOp P ops i (fun a' w' => C w' ∧ wpAnyC P md ops C Q fuel (listed.setIfInBounds i true) a' w') a w

theorem wp_of_stepC {o : Oper} {a : Act} {K : Act → World → Prop} {Q' : Exit → Act → World → Prop} {w : World} (h : stepC P o a K ((execOp a.eval o).run P w)) : o.wp P a w K Q' := by
  unfold Oper.wp
  generalize (execOp a.eval o).run P w = r at *
  cases r with
  | ok n w' =>
    cases n <;> simp only [stepC] at h <;> simp only [Oper.upon]
    case value v => exact h
    case skip => exact h
    case enter f args => exact h.mono fun e w'' ⟨v, he, hk⟩ => by subst he; exact hk
  | halt x w' => simp only [stepC] at h

theorem wpOp_of_cOp {i : Nat} {a : Act} {K : Act → World → Prop} {Q' : Exit → Act → World → Prop} {w : World} (h : cOp P ops i K a w) : wpOp P ops Q' i K a w := by
  unfold cOp at h
  unfold wpOp
  split
  · rename_i ho; simp only [ho] at h; exact h
  · rename_i o ho
    simp only [ho] at h
    split
    · rename_i hw; simp only [hw, if_true] at h; exact .inl (wp_of_stepC h)
    · rename_i hw; simp only [hw] at h; exact h

theorem wpAny_of_C {Q : Act → World → Prop} {Q' : Exit → Act → World → Prop} (hQ : ∀ a w, Q a w → Q' .normal a w) : ∀ (fuel : Nat) (listed : Array Bool) (a : Act) (w : World), wpAnyC P md ops C Q fuel listed a w → wpAny P md ops Q' fuel listed a w
  | 0, _, _, _, h => ⟨h.1, hQ _ _ h.2⟩
  | fuel + 1, _, _, _, h => ⟨fun h0 => hQ _ _ (h.1 h0), fun i hi => wpOp_mono (fun a' w' h' => wpAny_of_C hQ fuel _ a' w' h'.2) (wpOp_of_cOp (h.2 i hi))⟩

/-- In each world of the class the operation yields v, and changes nothing; or it is not wanted. -/
def YieldsC (P : Program) (ops : Array Oper) (C : World → Prop) (o : Oper) (v : Value) (a : Act) : Prop :=
  (Region.wanted o (yielded ops a.tmps) = true ∧ ∀ w, C w → (execOp a.eval o).run P w = .ok (.value v) w) ∨
  (Region.wanted o (yielded ops a.tmps) = false ∧ v = undef)

theorem YieldsC.cOp {i : Nat} {o : Oper} {v : Value} {a : Act} {w : World} (hi : ops[i]? = some o) (hy : YieldsC P ops C o v a) (hw : C w) {K : Act → World → Prop} (h : K (a.put o.dst v) w) : cOp P ops i K a w := by
  unfold Proofs.Ytjbedonncjppfaa.cOp
  simp only [hi]
  rcases hy with ⟨h1, h2⟩ | ⟨h1, rfl⟩
  · rw [if_pos h1, h2 w hw]; exact h
  · rw [if_neg (by rw [h1]; decide)]; exact h

theorem YieldsC.of_same {o : Oper} {v : Value} {a a' : Act} (hy : YieldsC P ops C o v a) (he : execOp a'.eval o = execOp a.eval o)
    (hw : Region.wanted o (yielded ops a'.tmps) = Region.wanted o (yielded ops a.tmps)) : YieldsC P ops C o v a' := by
  unfold YieldsC at *
  rw [he, hw]
  exact hy

theorem stepC_put {oi oj : Oper} {v : Value} {a : Act} (hap : ∀ d, oi.dst = some d → oj.dst ≠ some d) {K : Act → World → Prop} {r : Result Next} (h : stepC P oj (a.put oi.dst v) K r) :
    stepC P oj a (fun a' w' => ∃ u, a' = a.put oj.dst u ∧ K (a'.put oi.dst v) w') r := by
  cases r with
  | ok n w' =>
    cases n <;> simp only [stepC] at h ⊢
    case value u => exact ⟨u, rfl, by rw [← Act.put_comm a v u hap]; exact h⟩
    case skip => exact ⟨_, rfl, by rw [← Act.put_comm a v _ hap]; exact h⟩
    case enter f args => exact h.mono fun e w'' ⟨u, he, hk⟩ => ⟨u, he, u, rfl, by rw [← Act.put_comm a v u hap]; exact hk⟩
  | halt x w' => simp only [stepC] at h

theorem cOp_put {j : Nat} {oi oj : Oper} {v : Value} (hj : ops[j]? = some oj) (hap : oi.apart ops oj = true)
    (hsi : ∀ cs b, oi.op ≠ .select cs b) (hsj : ∀ cs b, oj.op ≠ .select cs b) {K : Act → World → Prop} {a : Act} {w : World}
    (hy : YieldsC P ops C oi v a) (h : cOp P ops j K (a.put oi.dst v) w) :
    cOp P ops j (fun a' w' => YieldsC P ops C oi v a' ∧ K (a'.put oi.dst v) w') a w := by
  obtain ⟨h1, h2, h3⟩ := Oper.apart_spec hap
  have keep : ∀ u, YieldsC P ops C oi v (a.put oj.dst u) := fun u =>
    hy.of_same (execOp_put oi hsi a oj.dst u h3) (wanted_put oi a oj.dst u h3)
  unfold cOp at *
  simp only [hj] at *
  rw [wanted_put oj a oi.dst v h1] at h
  split
  · rename_i hw
    simp only [hw, if_true] at h
    rw [execOp_put oj hsj a oi.dst v h1] at h
    exact stepC_mono (fun a' w' ⟨u, he, hk⟩ => ⟨by rw [he]; exact keep u, hk⟩) (stepC_put h2 h)
  · rename_i hw
    simp only [hw] at h
    exact ⟨keep _, by rw [← Act.put_comm a v undef h2]; exact h⟩

theorem wpAnyC_first {Q : Act → World → Prop} {i : Nat} {oi : Oper} {v : Value} (hi : ops[i]? = some oi) (hsel : ∀ (j : Nat) (o : Oper) cs b, ops[j]? = some o → o.op ≠ .select cs b) :
    ∀ (fuel : Nat) (listed : Array Bool) (a : Act) (w : World), C w →
      (∀ j oj, ops[j]? = some oj → j ≠ i → listed.getD j true = false → (∀ e ∈ oj.after, Region.binds md e = true → e.on ≠ i) → oi.apart ops oj = true) →
      i ∈ Region.ready md ops listed → YieldsC P ops C oi v a →
      wpAnyC P md ops C Q fuel (listed.setIfInBounds i true) (a.put oi.dst v) w → wpAnyC P md ops C Q (fuel + 1) listed a w := by
  intro fuel
  induction fuel with
  | zero =>
    intro listed a w hw _ hr hy H
    refine ⟨fun h => (by rw [h] at hr; cases hr), fun j hj => ?_⟩
    by_cases hji : j = i
    · subst hji; exact hy.cOp hi hw ⟨hw, H⟩
    · have := ready_mono hj hji
      rw [H.1] at this
      cases this
  | succ fuel ih =>
    intro listed a w hw hfree hr hy H
    refine ⟨fun h => (by rw [h] at hr; cases hr), fun j hj => ?_⟩
    by_cases hji : j = i
    · subst hji; exact hy.cOp hi hw ⟨hw, H⟩
    · have h1 := H.2 j (ready_mono hj hji)
      obtain ⟨hjun, oj, hoj, hall⟩ := mem_ready.1 hj
      have hnot : ∀ e ∈ oj.after, Region.binds md e = true → e.on ≠ i := fun e he hb heq => by
        have h1 := hall e he hb
        rw [heq, getD_both (mem_ready.1 hr).1] at h1
        cases h1
      have h2 := cOp_put hoj (hfree j oj hoj hji hjun hnot) (fun cs b => hsel i oi cs b hi) (fun cs b => hsel j oj cs b hoj) hy h1
      have hfree' : ∀ k ok, ops[k]? = some ok → k ≠ i → (listed.setIfInBounds j true).getD k true = false →
          (∀ e ∈ ok.after, Region.binds md e = true → e.on ≠ i) → oi.apart ops ok = true := fun k ok hk hki hun hno => by
        refine hfree k ok hk hki ?_ hno
        by_cases hjk : j = k
        · subst hjk; exact hjun
        · rw [getD_set_ne true hjk] at hun; exact hun
      refine cOp_mono (fun a' w' h3 => ⟨h3.2.1, ih (listed.setIfInBounds j true) a' w' h3.2.1 hfree' (ready_mono hr (Ne.symm hji)) h3.1 ?_⟩) h2
      rw [Array.setIfInBounds_comm _ _ hji]
      exact h3.2.2

/-- Does an operation write, make or call? -/
def isEff : Op → Bool
  | .move _ | .assign _ | .pick _ _ _ | .load _ _ | .binOp _ _ _ _ _ | .unOp _ _ _ | .fieldAddr _ _ _ | .indexAddr _ _ _ | .extract _ _ | .slice _ _ _ _ _ | .build _ _ | .convert _ _ _ => false
  | .call { callee := .builtin .len, .. } | .call { callee := .builtin .min, .. } | .call { callee := .builtin .max, .. } => false
  | _ => true

/-- One order: what only reads is free of what is still to come; what writes stands alone. -/
def mixFrom (md : Region.Mode) (ops : Array Oper) : List Nat → Array Bool → Bool
  | [], listed => (Region.ready md ops listed).isEmpty
  | k :: ks, listed =>
    (if (ops[k]?).elim false (fun o => isEff o.op) then decide (Region.ready md ops listed = [k]) else (Region.ready md ops listed).contains k && Region.free md ops listed k) && mixFrom md ops ks (listed.setIfInBounds k true)

def mixB (md : Region.Mode) (ops : Array Oper) (ord : List Nat) : Bool := Region.noSelect ops && (decide (ord.length = ops.size) && mixFrom md ops ord (Array.replicate ops.size false))

/-- The walk in that order. -/
def wpMix (P : Program) (ops : Array Oper) (C : World → Prop) (Q : Act → World → Prop) : List Oper → Act → World → Prop
  | [], a, w => Q a w
  | o :: rest, a, w =>
    if Region.wanted o (yielded ops a.tmps) then
      if isEff o.op then stepC P o a (fun a' w' => C w' ∧ wpMix P ops C Q rest a' w') ((execOp a.eval o).run P w)
      else ∃ v, (∀ w', C w' → (execOp a.eval o).run P w' = .ok (.value v) w') ∧ wpMix P ops C Q rest (a.put o.dst v) w
    else wpMix P ops C Q rest (a.put o.dst undef) w

theorem wpAnyC_mix {Q : Act → World → Prop} (hs : Region.noSelect ops = true) : ∀ (ks : List Nat) (l : List Oper) (listed : Array Bool) (a : Act) (w : World), ks.mapM (ops[·]?) = some l → C w →
    mixFrom md ops ks listed = true → wpMix P ops C Q l a w → wpAnyC P md ops C Q ks.length listed a w
  | [], l, listed, a, w, hl, _, hB, h => by
    simp at hl
    subst hl
    exact ⟨by simpa [mixFrom] using hB, h⟩
  | k :: ks, l, listed, a, w, hl, hw, hB, h => by
    simp only [List.mapM_cons, bind, Option.bind_eq_some_iff, pure, Option.some.injEq] at hl
    obtain ⟨o, ho, l', hl', rfl⟩ := hl
    simp only [mixFrom, ho, Option.elim, Bool.and_eq_true] at hB
    obtain ⟨hB1, hB2⟩ := hB
    simp only [wpMix] at h
    by_cases he : isEff o.op = true
    · rw [if_pos he] at hB1
      have hr : Region.ready md ops listed = [k] := of_decide_eq_true hB1
      refine ⟨fun h0 => (by rw [hr] at h0; cases h0), fun i hi => ?_⟩
      rw [hr] at hi
      obtain rfl : i = k := by simpa using hi
      unfold cOp
      simp only [ho]
      split
      · rename_i hwt
        rw [if_pos hwt, if_pos he] at h
        exact stepC_mono (fun a' w' h' => ⟨h'.1, wpAnyC_mix hs ks l' _ a' w' hl' h'.1 hB2 h'.2⟩) h
      · rename_i hwt
        rw [if_neg hwt] at h
        exact ⟨hw, wpAnyC_mix hs ks l' _ _ w hl' hw hB2 h⟩
    · rw [if_neg he] at hB1
      simp only [Bool.and_eq_true] at hB1
      obtain ⟨hr, hf⟩ := hB1
      have hr' : k ∈ Region.ready md ops listed := by simpa using hr
      have : ∃ v, YieldsC P ops C o v a ∧ wpMix P ops C Q l' (a.put o.dst v) w := by
        by_cases hwt : Region.wanted o (yielded ops a.tmps) = true
        · rw [if_pos hwt, if_neg he] at h
          obtain ⟨v, h1, h2⟩ := h
          exact ⟨v, .inl ⟨hwt, h1⟩, h2⟩
        · rw [if_neg hwt] at h
          exact ⟨undef, .inr ⟨by simpa using hwt, rfl⟩, h⟩
      obtain ⟨v, hy, hK⟩ := this
      exact wpAnyC_first ho (Region.noSelect_spec hs) ks.length listed a w hw (Region.free_spec ho hf) hr' hy (wpAnyC_mix hs ks l' _ _ w hl' hw hB2 hK)

theorem wp_region_mix {id : Nat} {Q : Exit → Act → World → Prop} {a : Act} {w : World} {l l' : List Oper} (ord : List Nat) (hm : P.follows .mixedOrders = true) (hB : mixB .any l.toArray ord = true) (hl : ord.mapM (l.toArray[·]?) = some l') (hC : C w.drew)
    (h : wpMix P l.toArray C (fun a' w' => Q .normal a' w') l' a w.drew) : (Code.region id l.toArray true).wp P Q a w := by
  simp only [mixB, Bool.and_eq_true, decide_eq_true_eq] at hB
  refine wp_region_any hm (wpAny_of_C (C := C) (Q := fun a' w' => Q .normal a' w') (fun a w h => h) _ _ _ _ ?_)
  have := wpAnyC_mix (md := .any) (Q := fun a' w' => Q .normal a' w') hB.1 ord l' (Array.replicate l.toArray.size false) a w.drew hl hC hB.2.2 h
  rw [hB.2.1] at this
  exact this
end

/-! ### The same over an environment -/
structure UM (P : Program) (n : Nat) (e : List (Nat × Value)) (ops : Array Oper) (C : World → Prop) (Q : Exit → Act → World → Prop) (l : List Oper) (w : World) : Prop where
  go : ∀ a, Holds n e a → wpMix P ops C (fun a' w' => Q .normal a' w') l a w

section
variable {P : Program} {n : Nat} {e : List (Nat × Value)} {Q Q' : Exit → Act → World → Prop} {w w0 : World} {ops : Array Oper} {rest : List Oper} {C : World → Prop}
variable {op : Op} {d : Nat} {ty : TypeId} {pos : String} {after : Array Edge} {v u : Value} {L K : List Ent} {F : Ent → List Ent}
variable {x y c : Operand} {t1 t2 : TypeId} {m k : Int} {dst : Option Tmp} {g : Option (Nat × Bool)}

theorem u_mix {id : Nat} {l l' : List Oper} (ord : List Nat) (C : World → Prop) (hm : P.follows .mixedOrders = true) (hB : mixB .any l.toArray ord = true) (hl : ord.mapM (l.toArray[·]?) = some l') (S : Sep w0 L w) (hC : ∀ w', Sep w0 L w' → C w')
    (h : ∀ w', Sep w0 L w' → UM P n e l.toArray C Q l' w') : UW P n e (.region id l.toArray true) Q w := ⟨fun a H =>
  wp_region_mix ord hm hB hl (hC _ S.drew) ((h _ S.drew).go a H)⟩
theorem um_end (h : UX n e Q .normal w) : UM P n e ops C Q [] w := ⟨fun a H => h.go a H⟩
theorem um_val (ex : Ex P n e C ⟨some d, op, ty, pos, after, none⟩ v) (hd : Nat.blt d n = true) (he : isEff op = false) (h : UM P n ((d, v) :: e) ops C Q rest w) : UM P n e ops C Q (⟨some d, op, ty, pos, after, none⟩ :: rest) w := ⟨fun a H => by
  unfold wpMix
  rw [if_pos (by rfl), if_neg (by show ¬ isEff op = true; rw [he]; decide)]
  exact ⟨v, fun w' hc => ex.go a H w' hc, h.go _ (H.put hd v)⟩⟩
theorem mix_unguard {a : Act} {o : Oper} {Qa : Act → World → Prop} (hw : Region.wanted o (yielded ops a.tmps) = true) (h : wpMix P ops C Qa ({ o with guard := none } :: rest) a w) : wpMix P ops C Qa (o :: rest) a w := by
  unfold wpMix at h ⊢
  rw [if_pos hw]
  rw [if_pos (by rfl)] at h
  exact h
theorem um_gT {j t : Nat} {b : Bool} (hj : (ops[j]?).bind (·.dst) = some t) (hl : look t e = some (.bool b)) (h : UM P n e ops C Q (⟨dst, op, ty, pos, after, none⟩ :: rest) w) : UM P n e ops C Q (⟨dst, op, ty, pos, after, some (j, b)⟩ :: rest) w :=
  ⟨fun a H => mix_unguard (by rw [gwanted H rfl hj hl]; simp) (h.go a H)⟩
def isB (x : Value) (b : Bool) : Bool := match x with | .bool c => c == b | _ => false
theorem um_gF {j t : Nat} {b : Bool} {xv : Value} (hj : (ops[j]?).bind (·.dst) = some t) (hl : look t e = some xv) (hx : isB xv b = false) (hd : Nat.blt d n = true) (h : UM P n ((d, undef) :: e) ops C Q rest w) : UM P n e ops C Q (⟨some d, op, ty, pos, after, some (j, b)⟩ :: rest) w :=
  ⟨fun a H => by
    have hw : Region.wanted ⟨some d, op, ty, pos, after, some (j, b)⟩ (yielded ops a.tmps) = isB xv b := by
      rw [gwanted (o := ⟨some d, op, ty, pos, after, some (j, b)⟩) (ops := ops) H rfl hj hl]; cases xv <;> rfl
    rw [hx] at hw
    unfold wpMix
    rw [if_neg (by rw [hw]; decide)]
    exact h.go _ (H.put hd _)⟩
theorem um_gF0 {j t : Nat} {b : Bool} {xv : Value} (hj : (ops[j]?).bind (·.dst) = some t) (hl : look t e = some xv) (hx : isB xv b = false) (h : UM P n e ops C Q rest w) : UM P n e ops C Q (⟨none, op, ty, pos, after, some (j, b)⟩ :: rest) w :=
  ⟨fun a H => by
    have hw : Region.wanted ⟨none, op, ty, pos, after, some (j, b)⟩ (yielded ops a.tmps) = isB xv b := by
      rw [gwanted (o := ⟨none, op, ty, pos, after, some (j, b)⟩) (ops := ops) H rfl hj hl]; cases xv <;> rfl
    rw [hx] at hw
    unfold wpMix
    rw [if_neg (by rw [hw]; decide)]
    exact h.go _ H⟩
theorem um_bT {b : Bool} (hb : b = true) (h : UM P n ((d, .bool true) :: e) ops C Q rest w) : UM P n ((d, .bool b) :: e) ops C Q rest w := hb ▸ h
theorem um_bF {b : Bool} (hb : b = false) (h : UM P n ((d, .bool false) :: e) ops C Q rest w) : UM P n ((d, .bool b) :: e) ops C Q rest w := hb ▸ h
theorem um_bS {b : Bool} (h1 : b = true → UM P n ((d, .bool true) :: e) ops C Q rest w) (h2 : b = false → UM P n ((d, .bool false) :: e) ops C Q rest w) : UM P n ((d, .bool b) :: e) ops C Q rest w := by
  cases b with
  | true => exact h1 rfl
  | false => exact h2 rfl

theorem run_enter {a : Act} {o : Oper} {f : FuncId} {xs : List Operand} {T : Array TypeId} {vs : List Value} (hok : CallOk P f) (hop : o.op = .call { callee := .value (.func f), args := xs.toArray, argTypes := T }) (hargs : xs.map a.eval = vs) : (execOp a.eval o).run P w = .ok (.enter f vs.toArray) w := by
  obtain ⟨fn, cd, hf, hname, hbd⟩ := hok.ok
  have h1 : fn.name ≠ "runtime.NumGoroutine" := by simpa using hname
  obtain ⟨dst, op, ty, pos, after, guard⟩ := o
  cases hop
  have e1 : (execOp a.eval ⟨dst, .call { callee := .value (.func f), args := xs.toArray, argTypes := T }, ty, pos, after, guard⟩) = callFunc f vs.toArray := by
    show callFunc f (#[] ++ xs.toArray.map a.eval ++ #[]) = _
    simp [hargs]
  rw [e1]
  simp [callFunc, hf, h1, hbd]

theorem um_call {R : Ending → World → Prop} {f : FuncId} {xs : List Operand} {T : Array TypeId} {vs : List Value} (hok : CallOk P f) (hargs : evs e xs = some vs) (hd : Nat.blt d n = true) (hc : Calls P f vs.toArray w R)
    (h : ∀ en w', R en w' → ∃ v, en = .returned v ∧ C w' ∧ UM P n ((d, v) :: e) ops C Q rest w') : UM P n e ops C Q (⟨some d, .call { callee := .value (.func f), args := xs.toArray, argTypes := T }, ty, pos, after, none⟩ :: rest) w := ⟨fun a H => by
  unfold wpMix
  rw [if_pos (by rfl), if_pos (by rfl), run_enter hok rfl (H.evs hargs)]
  refine hc.mono fun en w' hR => ?_
  obtain ⟨v, rfl, hC, hU⟩ := h en w' hR
  exact ⟨v, rfl, hC, hU.go _ (H.put hd v)⟩⟩

theorem um_appInts {T E : TypeId} {s x2 : Operand} {xs ys : List Int} (hT : SlT P T E 1 8 (.int .i64 0)) (hs : opE e s = some v) (hx : opE e x2 = some u) (A : Acc w0 w (ient E v xs) F) (R : Rd w 1 u ys.length (ys.map (Value.int .i64))) (hn : xs.length + ys.length ≤ 1099511627776) (hd : Nat.blt d n = true)
    (h : ∀ r w', Sep w0 (F (ient E r (xs ++ ys))) w' → C w' ∧ UM P n ((d, r) :: e) ops C Q rest w') :
    UM P n e ops C Q (⟨some d, .call { callee := .builtin .append, args := #[s, x2], argTypes := #[T, T] }, ty, pos, after, none⟩ :: rest) w := ⟨fun a H => by
  obtain ⟨v', w', hr, hg, hok, hk⟩ := run_append (P := P) (o := ⟨some d, .call { callee := .builtin .append, args := #[s, x2], argTypes := #[T, T] }, ty, pos, after, none⟩) rfl hT (H.eval hs) A.ok A.size (H.eval hx) R (ints_one ys) hn
  unfold wpMix
  rw [if_pos (by rfl), if_pos (by rfl), hr]
  have hS := A.upd _ _ hg hok hk
  obtain ⟨hC, hU⟩ := h v' w' (by simpa [ient] using hS)
  exact ⟨hC, hU.go _ (H.put hd v')⟩⟩

theorem um_lit0 {T E : TypeId} (hT : SlT P T E 1 8 (.int .i64 0)) (S : Sep w0 L w) (hd : Nat.blt d n = true)
    (h : ∀ r w', Sep w0 (ient E r [] :: L) w' → C w' ∧ UM P n ((d, r) :: e) ops C Q rest w') : UM P n e ops C Q (⟨some d, .buildSlice T 0 #[], ty, pos, after, none⟩ :: rest) w := ⟨fun a H => by
  obtain ⟨r, w1, hr, hb, hok⟩ := run_lit (P := P) (w := w) (o := ⟨some d, .buildSlice T 0 #[], ty, pos, after, none⟩) (a := a) (cells := #[]) rfl hT (by simp [Instr.fill, madeCells]) (by simp) (by simp) (by omega)
  unfold wpMix
  rw [if_pos (by rfl), if_pos (by rfl), hr]
  obtain ⟨hC, hU⟩ := h r w1 (S.add hb (by simpa [ient] using hok))
  exact ⟨hC, hU.go _ (H.put hd r)⟩⟩

theorem um_lit1 {T E : TypeId} (hT : SlT P T E 1 8 (.int .i64 0)) (hx : opE e x = some (.int .i64 m)) (S : Sep w0 L w) (hd : Nat.blt d n = true)
    (h : ∀ r w', Sep w0 (ient E r [m] :: L) w' → C w' ∧ UM P n ((d, r) :: e) ops C Q rest w') : UM P n e ops C Q (⟨some d, .buildSlice T 1 #[(0, x)], ty, pos, after, none⟩ :: rest) w := ⟨fun a H => by
  obtain ⟨r, w1, hr, hb, hok⟩ := run_lit (P := P) (w := w) (o := ⟨some d, .buildSlice T 1 #[(0, x)], ty, pos, after, none⟩) (a := a) (cells := #[.int .i64 m]) rfl hT (by simp [H.eval hx, Instr.fill, Value.cells, made_one]) (by simp) (by omega) (by omega)
  unfold wpMix
  rw [if_pos (by rfl), if_pos (by rfl), hr]
  obtain ⟨hC, hU⟩ := h r w1 (S.add hb (by simpa [ient] using hok))
  exact ⟨hC, hU.go _ (H.put hd r)⟩⟩

theorem um_storeInt {E E' : TypeId} {ad : Operand} {xs : List Int} {i m : Int} (hE : (P.info? E').map (·.size) = some 1) (hA : opE e ad = some (elem v (i.toNat * 1))) (hx : opE e x = some (.int .i64 m)) (A : Acc w0 w (ient E v xs) F) (h0 : 0 ≤ i) (hi : i < xs.length)
    (h : ∀ w', Sep w0 (F (ient E v (xs.set i.toNat m))) w' → C w' ∧ UM P n e ops C Q rest w') : UM P n e ops C Q (⟨none, .store E' ad x, ty, pos, after, none⟩ :: rest) w := ⟨fun a H => by
  have hl : i.toNat < xs.length := by omega
  have hA' : a.eval ad = elem (ient E v xs).v i.toNat := by rw [H.eval hA, Nat.mul_one]; rfl
  obtain ⟨w', hr, hg, hok⟩ := run_store (P := P) (o := ⟨none, .store E' ad x, ty, pos, after, none⟩) (us := [.int .i64 m]) rfl hE hA' (H.eval hx) rfl (by simp [Value.oneCell']) (by simp [ient]; omega) (by simp) A.ok
  unfold wpMix
  rw [if_pos (by rfl), if_pos (by rfl), hr]
  have hS := A.upd _ _ hg hok fun k hk => .inl hk
  rw [over_one _ _ _ (by simpa [ient] using hl)] at hS
  obtain ⟨hC, hU⟩ := h w' (by simpa [ient, Ent.with, List.map_set] using hS)
  exact ⟨hC, hU.go _ H⟩⟩

/-- Loads in any world of the class. -/
theorem x_loadIntC {E : TypeId} {xs : List Int} {i : Int} (hE : P.underlying E = some (.int .i64)) (hx : opE e x = some (elem v (i.toNat * 1))) (R : ∀ w', C w' → Rd w' 1 v xs.length (xs.map (Value.int .i64))) (h0 : 0 ≤ i) (h1 : i < xs.length) : Ex P n e C ⟨dst, .load E x, ty, pos, after, g⟩ (.int .i64 (gi xs i)) := ⟨fun a H w' hc =>
  run_load1 rfl (int_not_agg hE w') (H.eval hx) (adr_int (R w' hc) h0 h1) rfl⟩
theorem x_load1C {E : TypeId} {A : Value} {us : List Value} (hE : P.underlying E = some (.int .i64)) (hx : opE e x = some A) (R : ∀ w', C w' → Adr w' A us) (hu : us[0]? = some u) : Ex P n e C ⟨dst, .load E x, ty, pos, after, g⟩ u := ⟨fun a H w' hc =>
  run_load1 rfl (int_not_agg hE w') (H.eval hx) (R w' hc) hu⟩
theorem x_loadAggC {E : TypeId} {A z : Value} {us : List Value} {sz : Nat} (hE : StT P E z sz) (hx : opE e x = some A) (R : ∀ w', C w' → Adr w' A us) (hu : us.length = sz) : Ex P n e C ⟨dst, .load E x, ty, pos, after, g⟩ (.agg us.toArray) := ⟨fun a H w' hc =>
  run_loadAgg rfl hE (H.eval hx) (R w' hc) hu⟩
theorem x_loadTokC {E : TypeId} {ts : List Tok} {i : Int} {z : Value} (hE : StT P E z 3) (hx : opE e x = some (elem v (i.toNat * 3))) (R : ∀ w', C w' → Rd w' 3 v ts.length (flat ts)) (h0 : 0 ≤ i) (h1 : i < ts.length) : Ex P n e C ⟨dst, .load E x, ty, pos, after, g⟩ (.agg (tcs (gt ts i)).toArray) := ⟨fun a H w' hc =>
  run_loadAgg rfl hE (H.eval hx) (adr_tok (R w' hc) (show i.toNat < ts.length by omega)) rfl⟩
theorem x_loadTokFC {E : TypeId} {ts : List Tok} {i : Int} {f : Nat} (hE : P.underlying E = some (.int .i64)) (hx : opE e x = some (elem v (i.toNat * 3 + f))) (R : ∀ w', C w' → Rd w' 3 v ts.length (flat ts)) (h0 : 0 ≤ i) (h1 : i < ts.length) (hu : (tcs (gt ts i))[f]? = some u) : Ex P n e C ⟨dst, .load E x, ty, pos, after, g⟩ u := ⟨fun a H w' hc =>
  run_load1 rfl (int_not_agg hE w') (H.eval hx) (adr_part rfl (adr_tok (R w' hc) (show i.toNat < ts.length by omega)) hu) rfl⟩

/-! ### A part of a slice, one value in every world -/
theorem run_slice_all {T E : TypeId} {a : Act} {o : Oper} {x : Operand} {lo hi : Option Operand} {v : Value} {l h : Int} {cnt sz bytes : Nat} {z : Value} {cs : List Value} {wb : World}
    (hop : o.op = .slice T x lo hi none) (hT : SlT P T E sz bytes z) (hx : a.eval x = v)
    (hlo : (lo.map a.eval = none ∧ l = 0) ∨ ∃ k, lo.map a.eval = some (.int k l)) (hhi : (hi.map a.eval = none ∧ h = cnt) ∨ ∃ k, hi.map a.eval = some (.int k h))
    (R : Rd wb sz v cnt cs) (h0 : 0 ≤ l) (h1 : l ≤ h) (h2 : h ≤ cnt) :
    ∃ v', (∀ w, (execOp a.eval o).run P w = .ok (.value v') w) ∧ Rd wb sz v' (h - l).toNat ((cs.drop (l.toNat * sz)).take ((h - l).toNat * sz)) := by
  obtain ⟨inf, hinf, hz0, hz1, hz2⟩ := info_parts hT.inf
  obtain ⟨L, rfl⟩ := Int.eq_ofNat_of_zero_le h0
  obtain ⟨H, rfl⟩ := Int.eq_ofNat_of_zero_le (Int.le_trans h0 h1)
  have hsl : ∀ w, (Instr.sliceAt T v (lo.map a.eval) (hi.map a.eval) none).run P w = (Instr.slice T v (lo.map a.eval) (hi.map a.eval) none).run P w := by
    intro w; simp [Instr.sliceAt, Sem.run_bind, run_underlying hT.und]
  have hsub : (↑H - ↑L : Int).toNat = H - L := by omega
  have hlen : ((cs.drop (L * sz)).take ((H - L) * sz)).length = (H - L) * sz := by
    rw [List.length_take, List.length_drop, R.1]
    have : (H - L) * sz ≤ cnt * sz - L * sz := by rw [← Nat.sub_mul]; exact Nat.mul_le_mul_right _ (by omega)
    omega
  have hS : ∀ (w : World) (k : IntKind) (X Y : Nat) (code : BoundsCode), X ≤ Y → (Instr.sliceBound (.int k X) Y code).run P w = .ok X w := fun w k X Y code hXY => by
    simp [Instr.sliceBound, asIntOf, show (X : Int) ≤ Y by omega]
  have hbd : ∀ (w : World) (cap : Nat), cnt ≤ cap → (Instr.sliceBounds true cnt cap (lo.map a.eval) (hi.map a.eval) none).run P w = .ok (L, H, cap) w := by
    intro w cap hcap
    have hLH : L ≤ H := by omega
    have hHc : H ≤ cap := by omega
    rcases hhi with ⟨e, e2⟩ | ⟨k, e⟩ <;> rcases hlo with ⟨e', e2'⟩ | ⟨k', e'⟩ <;> rw [e, e']
    · obtain rfl : H = cnt := by omega
      obtain rfl : L = 0 := by omega
      simp [Instr.sliceBounds]
    · obtain rfl : H = cnt := by omega
      simp [Instr.sliceBounds, hS _ _ _ _ _ hLH]
    · obtain rfl : L = 0 := by omega
      simp [Instr.sliceBounds, hS _ _ _ _ _ hHc]
    · simp [Instr.sliceBounds, hS _ _ _ _ _ hHc, hS _ _ _ _ _ hLH]
  unfold execOp
  simp only [hop, hx, Option.map_none, Int.toNat_natCast, hsub]
  rcases R.2.2 with ⟨rfl, a1, c, rfl, hnil⟩ | ⟨b, off, c, rfl, h3, h4, hc⟩
  · have e1 : L = 0 := by omega
    have e2 : H = 0 := by omega
    subst e1; subst e2
    refine ⟨.slice (if c = 0 then a1 else a1.map (·.add 0)) 0 c, fun w => ?_, by simp, by omega, .inl ⟨rfl, _, c, rfl, ?_⟩⟩
    · have := hbd w c (Nat.zero_le _)
      simp [hsl, Instr.slice, run_underlying hT.und, Sem.run_bind, this, Result.andThen, sizeOf, typeInfo, hinf]
    · intro h
      split at h
      · assumption
      · cases a1 with
        | none => exact hnil rfl
        | some A => cases h
  · refine ⟨.slice (if c = L then some ⟨b, off, none⟩ else some ⟨b, off + L * sz, none⟩) (H - L) (c - L), fun w => ?_, hlen, by have := R.2.1; omega, ?_⟩
    · have := hbd w c h3
      simp [hsl, Instr.slice, run_underlying hT.und, Sem.run_bind, this, Result.andThen, sizeOf, typeInfo, hinf, hz1, Addr.add_lit]
    · by_cases hcL : c = L
      · rw [if_pos hcL]
        refine .inr ⟨b, off, c - L, rfl, by omega, by omega, fun j u hu => ?_⟩
        have hj := (List.getElem?_eq_some_iff.1 hu).1
        rw [hlen, show H - L = 0 by omega] at hj
        omega
      · rw [if_neg hcL]
        refine .inr ⟨b, off + L * sz, c - L, rfl, by omega, by omega, fun j u hu => ?_⟩
        rw [List.getElem?_take] at hu
        split at hu
        · rw [List.getElem?_drop] at hu
          rw [Nat.add_assoc]
          exact hc _ _ hu
        · cases hu


theorem uq_sliceInts {T E : TypeId} {K : Act → Prop} {lo hi : Option Operand} {l h : Int} {xs : List Int} {wb : World} (hT : SlT P T E 1 8 (.int .i64 0)) (hx : opE e x = some v)
    (hlo : (lo = none ∧ l = 0) ∨ ∃ k, lo.bind (opE e) = some (.int k l)) (hhi : (hi = none ∧ h = xs.length) ∨ ∃ k, hi.bind (opE e) = some (.int k h))
    (R : Ints wb v xs) (h0 : 0 ≤ l) (h1 : l ≤ h) (h2 : h ≤ xs.length) (hd : Nat.blt d n = true)
    (hk : ∀ v', Ints wb v' ((xs.drop l.toNat).take (h - l).toNat) → UQ P n ((d, v') :: e) ops C K rest) : UQ P n e ops C K (⟨some d, .slice T x lo hi none, ty, pos, after, none⟩ :: rest) := ⟨fun a H => by
  have hlo' : (lo.map a.eval = none ∧ l = 0) ∨ ∃ k, lo.map a.eval = some (.int k l) := by
    rcases hlo with ⟨rfl, e1⟩ | ⟨k, e1⟩
    · exact .inl ⟨rfl, e1⟩
    · obtain ⟨o, rfl, ho⟩ := Option.bind_eq_some_iff.1 e1
      exact .inr ⟨k, by rw [Option.map_some, H.eval ho]⟩
  have hhi' : (hi.map a.eval = none ∧ h = xs.length) ∨ ∃ k, hi.map a.eval = some (.int k h) := by
    rcases hhi with ⟨rfl, e1⟩ | ⟨k, e1⟩
    · exact .inl ⟨rfl, e1⟩
    · obtain ⟨o, rfl, ho⟩ := Option.bind_eq_some_iff.1 e1
      exact .inr ⟨k, by rw [Option.map_some, H.eval ho]⟩
  obtain ⟨v', hr, R'⟩ := run_slice_all (P := P) (o := ⟨some d, .slice T x lo hi none, ty, pos, after, none⟩) rfl hT (H.eval hx) hlo' hhi' R.1 h0 h1 h2
  have hl : ((xs.drop l.toNat).take (h - l).toNat).length = (h - l).toNat := by simp; omega
  have RI : Ints wb v' ((xs.drop l.toNat).take (h - l).toNat) := ⟨by rw [hl, List.map_take, List.map_drop]; simpa using R', fun y hy => R.2 y (List.mem_of_mem_drop (List.mem_of_mem_take hy))⟩
  exact q_val rfl (fun w' _ => hr w') ((hk v' RI).go _ (H.put hd v'))⟩
theorem um_sliceInts {T E : TypeId} {lo hi : Option Operand} {l h : Int} {xs : List Int} {wb : World} (hT : SlT P T E 1 8 (.int .i64 0)) (hx : opE e x = some v)
    (hlo : (lo = none ∧ l = 0) ∨ ∃ k, lo.bind (opE e) = some (.int k l)) (hhi : (hi = none ∧ h = xs.length) ∨ ∃ k, hi.bind (opE e) = some (.int k h))
    (R : Ints wb v xs) (h0 : 0 ≤ l) (h1 : l ≤ h) (h2 : h ≤ xs.length) (hd : Nat.blt d n = true)
    (hk : ∀ v', Ints wb v' ((xs.drop l.toNat).take (h - l).toNat) → UM P n ((d, v') :: e) ops C Q rest w) : UM P n e ops C Q (⟨some d, .slice T x lo hi none, ty, pos, after, none⟩ :: rest) w := ⟨fun a H => by
  have hlo' : (lo.map a.eval = none ∧ l = 0) ∨ ∃ k, lo.map a.eval = some (.int k l) := by
    rcases hlo with ⟨rfl, e1⟩ | ⟨k, e1⟩
    · exact .inl ⟨rfl, e1⟩
    · obtain ⟨o, rfl, ho⟩ := Option.bind_eq_some_iff.1 e1
      exact .inr ⟨k, by rw [Option.map_some, H.eval ho]⟩
  have hhi' : (hi.map a.eval = none ∧ h = xs.length) ∨ ∃ k, hi.map a.eval = some (.int k h) := by
    rcases hhi with ⟨rfl, e1⟩ | ⟨k, e1⟩
    · exact .inl ⟨rfl, e1⟩
    · obtain ⟨o, rfl, ho⟩ := Option.bind_eq_some_iff.1 e1
      exact .inr ⟨k, by rw [Option.map_some, H.eval ho]⟩
  obtain ⟨v', hr, R'⟩ := run_slice_all (P := P) (o := ⟨some d, .slice T x lo hi none, ty, pos, after, none⟩) rfl hT (H.eval hx) hlo' hhi' R.1 h0 h1 h2
  have hl : ((xs.drop l.toNat).take (h - l).toNat).length = (h - l).toNat := by simp; omega
  have RI : Ints wb v' ((xs.drop l.toNat).take (h - l).toNat) := ⟨by rw [hl, List.map_take, List.map_drop]; simpa using R', fun y hy => R.2 y (List.mem_of_mem_drop (List.mem_of_mem_take hy))⟩
  unfold wpMix
  rw [if_pos (by rfl), if_neg (by simp [isEff])]
  exact ⟨v', fun w' _ => hr w', (hk v' RI).go _ (H.put hd v')⟩⟩
end
end Go.Proofs.Ytjbedonncjppfaa
