/-
  The walk's steps for operations that write or make memory.
-/
import Derived.Test.YtjbedonncjppfaaRules
namespace Go.Proofs.Ytjbedonncjppfaa
set_option linter.unusedVariables false
set_option linter.unusedSimpArgs false
set_option linter.unnecessarySimpa false
open Go.RowKit

section
variable {P : Program} {ops : Array Oper} {Q : Exit → Act → World → Prop} {a : Act} {w w0 : World} {rest : List Oper} {o : Oper} {L : List Ent} {F : Ent → List Ent}

theorem elem_zero (b : Nat) : elem (.pointer (some ⟨b, 0, none⟩)) 0 = .pointer (some ⟨b, 0, none⟩) := by simp [elem, Addr.add]

theorem below_alloc (w : World) (x : Obj) : Below w.heap.size w (w.alloc x) := (Below.refl _ _).alloc (Nat.le_refl _) _

theorem r_alloc (hw : Region.wanted o (yielded ops a.tmps) = true) {E : TypeId} {z : Value} (hop : o.op = .alloc E) (hz : (P.info? E).map (·.zero) = some (some z)) (S : Sep w0 L w)
    (h : ∀ p w', Sep w0 (bent E p z.cells.toList :: L) w' → wpList P ops Q rest (a.put o.dst (elem p 0)) w') : wpList P ops Q (o :: rest) a w := by
  obtain ⟨i, hi, hzz⟩ := Option.map_eq_some_iff.1 hz
  have hr : (execOp a.eval o).run P w = .ok (.value (elem (.pointer (some ⟨w.heap.size, 0, none⟩)) 0)) (w.alloc (.cells z.cells E)) := by
    rw [elem_zero]
    unfold execOp
    simp [hop, Instr.alloc, zeroValue, typeInfo, hi, hzz, newVar, newRow]
  refine r_valw hw hr (h _ _ (S.add (below_alloc _ _) ?_))
  simp only [bent, Ent.ok, if_true]
  exact ⟨w.heap.size, rfl, Nat.le_refl _, by simpa using heap_alloc_new w _⟩

theorem r_box (hw : Region.wanted o (yielded ops a.tmps) = true) {E : TypeId} {x : Operand} {u : Value} (hop : o.op = .box E x) (hx : a.eval x = u) (S : Sep w0 L w)
    (h : ∀ p w', Sep w0 (bent E p u.cells.toList :: L) w' → wpList P ops Q rest (a.put o.dst (elem p 0)) w') : wpList P ops Q (o :: rest) a w := by
  have hr : (execOp a.eval o).run P w = .ok (.value (elem (.pointer (some ⟨w.heap.size, 0, none⟩)) 0)) (w.alloc (.cells u.cells E)) := by
    rw [elem_zero]
    unfold execOp
    simp [hop, Instr.box, hx, newVar, newRow]
  refine r_valw hw hr (h _ _ (S.add (below_alloc _ _) ?_))
  simp only [bent, Ent.ok, if_true]
  exact ⟨w.heap.size, rfl, Nat.le_refl _, by simpa using heap_alloc_new w _⟩

theorem r_boxAgg (hw : Region.wanted o (yielded ops a.tmps) = true) {E : TypeId} {x : Operand} {us : List Value} (hop : o.op = .box E x) (hx : a.eval x = .agg us.toArray) (S : Sep w0 L w)
    (h : ∀ p w', Sep w0 (bent E p us :: L) w' → wpList P ops Q rest (a.put o.dst (elem p 0)) w') : wpList P ops Q (o :: rest) a w :=
  r_box hw hop hx S fun p w' S' => h p w' (by simpa [Value.cells] using S')

theorem run_store {E : TypeId} {ad x : Operand} {u : Value} {y : Ent} {us : List Value} {k : Nat} (hop : o.op = .store E ad x) (hE : (P.info? E).map (·.size) = some us.length)
    (hA : a.eval ad = elem y.v k) (hx : a.eval x = u) (hu : u.cells.toList = us) (h1 : ∀ v ∈ us, v.oneCell' = true) (hk : k + us.length ≤ y.cs.length) (hp : 0 < us.length) {B : Nat} (A : y.ok B w) :
    ∃ w', (execOp a.eval o).run P w = .ok .skip w' ∧ w.grownBy w' (blk y.v) ∧ (y.with (over y.cs k us)).ok B w' := by
  obtain ⟨b, w', he, hst, hg, hok⟩ := Ent.store (P := P) A k us h1 hk hp
  obtain ⟨i, hi, hsz⟩ := Option.map_eq_some_iff.1 hE
  refine ⟨w', ?_, hg, hok⟩
  unfold execOp
  simp only [hop, hA, hx, he]
  have hn : u.cells.size = i.size := by rw [hsz, ← hu]; simp
  simp [Instr.storeAt, Instr.sureAddr, storeVar, sizeOf, typeInfo, hi, hn, hu, hst]

theorem r_store (hw : Region.wanted o (yielded ops a.tmps) = true) {E : TypeId} {ad x : Operand} {u : Value} {y : Ent} {us : List Value} {k : Nat} (hop : o.op = .store E ad x) (hE : (P.info? E).map (·.size) = some us.length)
    (hA : a.eval ad = elem y.v k) (hx : a.eval x = u) (hu : u.cells.toList = us) (h1 : ∀ v ∈ us, v.oneCell' = true) (hk : k + us.length ≤ y.cs.length) (hp : 0 < us.length) (A : Acc w0 w y F)
    (h : ∀ w', Sep w0 (F (y.with (over y.cs k us))) w' → wpList P ops Q rest (a.put o.dst undef) w') : wpList P ops Q (o :: rest) a w := by
  obtain ⟨w', hr, hg, hok⟩ := run_store (P := P) hop hE hA hx hu h1 hk hp A.ok
  exact r_skip hw hr (h _ (A.upd _ _ hg hok fun k hk => .inl hk))

/-- One int into owned ints. -/
theorem r_storeInt (hw : Region.wanted o (yielded ops a.tmps) = true) {E : TypeId} {ad x : Operand} {v : Value} {xs : List Int} {i n : Int} (hop : o.op = .store E ad x) (hE : (P.info? E).map (·.size) = some 1)
    (hA : a.eval ad = elem v (i.toNat * 1)) (hx : a.eval x = .int .i64 n) (A : Acc w0 w (ient E v xs) F) (h0 : 0 ≤ i) (hi : i < xs.length)
    (h : ∀ w', Sep w0 (F (ient E v (xs.set i.toNat n))) w' → wpList P ops Q rest (a.put o.dst undef) w') : wpList P ops Q (o :: rest) a w := by
  have hl : i.toNat < xs.length := by omega
  refine r_store (y := ient E v xs) (us := [.int .i64 n]) (k := i.toNat) hw hop hE (by rw [hA, Nat.mul_one]; rfl) hx rfl (by simp [Value.oneCell']) (by simp [ient]; omega) (by simp) A fun w' S => h w' ?_
  rw [over_one _ _ _ (by simpa [ient] using hl)] at S
  simpa [ient, Ent.with, List.map_set] using S

theorem r_storeIntN (hw : Region.wanted o (yielded ops a.tmps) = true) {E : TypeId} {ad x : Operand} {v : Value} {xs : List Int} {k : Nat} {n : Int} (hop : o.op = .store E ad x) (hE : (P.info? E).map (·.size) = some 1)
    (hA : a.eval ad = elem v k) (hx : a.eval x = .int .i64 n) (A : Acc w0 w (ient E v xs) F) (hi : k < xs.length)
    (h : ∀ w', Sep w0 (F (ient E v (xs.set k n))) w' → wpList P ops Q rest (a.put o.dst undef) w') : wpList P ops Q (o :: rest) a w :=
  r_storeInt (i := (k : Int)) hw hop hE (by rw [hA, Int.toNat_natCast, Nat.mul_one]) hx A (by omega) (by omega) (by simpa using h)

/-- One cell into a box. -/
theorem r_storeBox (hw : Region.wanted o (yielded ops a.tmps) = true) {E E' : TypeId} {ad x : Operand} {p u : Value} {cs cs' : List Value} {k : Nat} (hop : o.op = .store E' ad x) (hE : (P.info? E').map (·.size) = some 1)
    (hA : a.eval ad = elem p k) (hx : a.eval x = u) (hu : u.cells.toList = [u]) (h1 : u.oneCell' = true) (hk : k < cs.length) (A : Acc w0 w (bent E p cs) F) (hcs : cs.set k u = cs')
    (h : ∀ w', Sep w0 (F (bent E p cs')) w' → wpList P ops Q rest (a.put o.dst undef) w') : wpList P ops Q (o :: rest) a w := by
  refine r_store (y := bent E p cs) (us := [u]) (k := k) hw hop hE hA hx hu (by simpa using h1) (by simp [bent]; omega) (by simp) A fun w' S => h w' ?_
  rw [over_one _ _ _ (by simpa [bent] using hk)] at S
  simpa [bent, Ent.with, hcs] using S

/-- A whole struct into a box. -/
theorem r_storeAgg (hw : Region.wanted o (yielded ops a.tmps) = true) {E : TypeId} {ad x : Operand} {p : Value} {us cs : List Value} {sz : Nat} (hop : o.op = .store E ad x) (hE : (P.info? E).map (·.size) = some sz)
    (hA : a.eval ad = elem p 0) (hx : a.eval x = .agg us.toArray) (hsz : us.length = sz) (h1 : us.all (·.oneCell') = true) (hp : 0 < us.length) (A : Acc w0 w (bent E p cs) F) (hk : us.length = cs.length)
    (h : ∀ w', Sep w0 (F (bent E p us)) w' → wpList P ops Q rest (a.put o.dst undef) w') : wpList P ops Q (o :: rest) a w := by
  refine r_store (y := bent E p cs) (us := us) (k := 0) hw hop (by rw [hE, hsz]) hA hx (by simp [Value.cells]) (by simpa using h1) (by simp [bent]; omega) hp A fun w' S => h w' ?_
  have : over cs 0 us = us := by simp [over, hk]
  simpa [bent, Ent.with, this] using S

/-! ### New slices -/
theorem run_make {T E : TypeId} {l c : Operand} {n sz bytes : Nat} {z : Value} (hop : o.op = .makeSlice T l c) (hT : SlT P T E sz bytes z) (hl : a.eval l = .int .i64 (n : Int)) (hc : a.eval c = .int .i64 (n : Int)) (hn : n ≤ 1099511627776) :
    ∃ v w', (execOp a.eval o).run P w = .ok (.value v) w' ∧ Below w.heap.size w w' ∧ Ent.ok w.heap.size w' ⟨false, v, E, sz, n, (madeCells z.cells (n * sz)).toList⟩ := by
  obtain ⟨i, hi, hz0, hz1, hz2⟩ := info_parts hT.inf
  have hb : i.bytes * n ≤ 281474976710656 := by
    have h1 : i.bytes * n ≤ 64 * 1099511627776 := Nat.mul_le_mul (by rw [hz2]; exact hT.small) hn
    omega
  obtain ⟨w', hr, h1, h2⟩ := run_make_full (P := P) w w.heap.size T E i z sz hT.und hi hz0 hz1 .i64 .i64 n hb (by unfold maxLen; omega) (Nat.le_refl _)
  refine ⟨.slice (some ⟨w.heap.size, 0, none⟩) n n, w', ?_, Below.of_grown_none h2, ?_⟩
  · unfold execOp
    simp only [hop, hl, hc, Sem.run_bind, hr, Result.andThen_ok, Sem.run_pure]
  · simp only [Ent.ok]
    exact ⟨h1, hn⟩

theorem toList_replicate_int (n : Nat) : (madeCells (Value.cells (.int .i64 0)) (n * 1)).toList = (List.replicate n (0 : Int)).map (Value.int .i64) := by
  rw [Nat.mul_one, show Value.cells (.int .i64 0) = #[.int .i64 0] from rfl, toList_madeCells_one, List.map_replicate]

theorem r_makeInt (hw : Region.wanted o (yielded ops a.tmps) = true) {T E : TypeId} {l c : Operand} {n : Int} (hop : o.op = .makeSlice T l c) (hT : SlT P T E 1 8 (.int .i64 0)) (hl : a.eval l = .int .i64 n) (hc : a.eval c = .int .i64 n) (h0 : 0 ≤ n) (hn : n ≤ 1099511627776) (S : Sep w0 L w)
    (h : ∀ v w', Sep w0 (ient E v (List.replicate n.toNat 0) :: L) w' → wpList P ops Q rest (a.put o.dst v) w') : wpList P ops Q (o :: rest) a w := by
  obtain ⟨m, rfl⟩ := Int.eq_ofNat_of_zero_le h0
  obtain ⟨v, w', hr, hb, hok⟩ := run_make (P := P) (w := w) hop hT hl hc (by omega)
  refine r_valw hw hr (h v w' (S.add hb ?_))
  rw [toList_replicate_int] at hok
  simpa [ient] using hok

/-- A literal, by its cells. -/
theorem run_lit {T E : TypeId} {n sz bytes : Nat} {z : Value} {parts : Array (Nat × Operand)} {cells : Array Value} (hop : o.op = .buildSlice T n parts) (hT : SlT P T E sz bytes z)
    (hf : Instr.fill (fun i => some (i * sz, sz)) (madeCells z.cells (n * sz)) (parts.map fun (i, x) => (i, a.eval x)).toList = some cells) (hcs : cells.size = n * sz) (hn : n * sz ≤ 16777216) (hn' : n ≤ 1099511627776) :
    ∃ v w', (execOp a.eval o).run P w = .ok (.value v) w' ∧ Below w.heap.size w w' ∧ Ent.ok w.heap.size w' ⟨false, v, E, sz, n, cells.toList⟩ := by
  obtain ⟨i, hi, hz0, hz1, hz2⟩ := info_parts hT.inf
  refine ⟨.slice (some ⟨w.heap.size, 0, none⟩) n n, w.alloc (.cells cells E), ?_, below_alloc _ _, ?_⟩
  · unfold execOp
    simp only [hop]
    have hbig : ¬ (16777216 < n * sz) := by omega
    by_cases h0 : n * sz = 0
    · have hz : madeCells z.cells (n * sz) = #[] := by rw [h0]; simp [madeCells]
      rw [hz] at hf
      rcases Nat.mul_eq_zero.1 h0 with h0' | h0'
      · subst h0'
        simp [Instr.buildSlice, run_underlying hT.und, Sem.run_bind, Result.andThen, sizeOf, typeInfo, hi, hz1, newRow]
        have e0 : Array.map (fun x => (default : Value)) (Array.range 0) = #[] := by simp
        simp only [Array.toList_map] at hf
        rw [e0]
        simp only [hf]
        rfl
      · have := hT.pos; omega
    · simp [Instr.buildSlice, run_underlying hT.und, Sem.run_bind, Result.andThen, sizeOf, typeInfo, hi, hz1, hbig, h0, zeroValue, hz0, newRow]
      unfold madeCells at hf
      simp only [Array.toList_map] at hf
      simp only [hf]
      rfl
  · simp only [Ent.ok]
    exact ⟨World.ownsRow_lit w cells n (Nat.le_refl _) (by unfold maxLen; omega) hcs, hn'⟩

/-! ### append -/
theorem run_append {T E : TypeId} {s x : Operand} {n m sz bytes B : Nat} {z v y : Value} {cs news : List Value} (hop : o.op = .call { callee := .builtin .append, args := #[s, x], argTypes := #[T, T] }) (hT : SlT P T E sz bytes z)
    (hs : a.eval s = v) (A : Ent.ok B w ⟨false, v, E, sz, n, cs⟩) (hB : B ≤ w.heap.size) (hx : a.eval x = y) (R : Rd w sz y m news) (h1 : ∀ u ∈ news, u.oneCell' = true) (hn : n + m ≤ 1099511627776) :
    ∃ v' w', (execOp a.eval o).run P w = .ok (.value v') w' ∧ w.grownBy w' (blk v) ∧ Ent.ok B w' ⟨false, v', E, sz, n + m, cs ++ news⟩ ∧ ∀ k, blk v' = some k → blk v = some k ∨ w.heap.size ≤ k := by
  obtain ⟨i, hi, hz0, hz1, hz2⟩ := info_parts hT.inf
  have hexec : ∀ v' w', (Builtin.append_ #[T, T] o.type #[v, y]).run P w = .ok v' w' → (execOp a.eval o).run P w = .ok (.value v') w' := by
    intro v' w' hr
    unfold execOp
    simp only [hop, resolve, invoke, builtin, Sem.run_bind, Sem.run_pure, Result.andThen_ok, List.map_toArray, List.map_cons, List.map_nil, hs, hx, hr]
  obtain ⟨hown, _⟩ := A
  dsimp only at hown
  have hbytes : (n + m) * bytes ≤ 140737488355328 := by
    have h1 : (n + m) * bytes ≤ 1099511627776 * 64 := Nat.mul_le_mul hn hT.small
    omega
  have general : ∀ (A : Addr) (c : Nat), y = .slice (some A) m c → (∀ j u, news[j]? = some u → w.cell? (A.add j) = some u) →
      ∃ v' w', (execOp a.eval o).run P w = .ok (.value v') w' ∧ w.grownBy w' (blk v) ∧ Ent.ok B w' ⟨false, v', E, sz, n + m, cs ++ news⟩ ∧ ∀ k, blk v' = some k → blk v = some k ∨ w.heap.size ≤ k := by
    rintro A c rfl hcell
    obtain ⟨v', w', hr, ho, hg, hnil⟩ := run_append_own (P := P) w B T o.type E i z sz bytes hT.und hi hz0 hz1 hz2 hT.zsz hT.pos v n cs hown A m c news R.1 hcell h1 (by unfold maxLen; omega) hbytes hB
    rw [blk_of_own hown] at hg
    refine ⟨v', w', hexec _ _ hr, hg, ?_, ?_⟩
    · simp only [Ent.ok]
      exact ⟨ho, hn⟩
    · intro k hk
      rcases hown.2 with ⟨rfl, rfl⟩ | ⟨g, cap, cur, rfl, hbg, hgg, hnc, hcm, hcs, htake⟩
      · by_cases hm : m = 0
        · have := hnil.2 ⟨rfl, hm⟩
          rw [this] at hk; cases hk
        · have hr2 := run_append_nil (P := P) w T o.type E i z hT.und hi hz0 A m c news (by rw [hz1]; exact R.1) hcell (by omega) (by omega) (by rw [hz2]; simp only [Nat.zero_add] at hbytes; omega)
          rw [hr2] at hr
          simp only [Result.ok.injEq] at hr
          rw [← hr.1] at hk
          simp only [blk, Option.some.injEq] at hk
          exact .inr (by omega)
      · by_cases hroom : n + m ≤ cap
        · obtain ⟨w2, hr2, _⟩ := run_append_fits (P := P) w B T o.type E i sz hT.und hi hz1 g n cap cs hown A m c news R.1 hcell h1 hroom
          rw [hr2] at hr
          simp only [Result.ok.injEq] at hr
          rw [← hr.1] at hk
          exact .inl hk
        · have hr2 := run_append_grow (P := P) w T o.type E i z hT.und hi hz0 ⟨g, 0, none⟩ n cap cs (by rw [hz1]; exact hown.1) (hown.cells (g := g) rfl) A m c news (by rw [hz1]; exact R.1) hcell (by omega) (by omega) (growslice_fits (by omega) (by rw [hz2]; exact hbytes))
          rw [hr2] at hr
          simp only [Result.ok.injEq] at hr
          rw [← hr.1] at hk
          simp only [blk, Option.some.injEq] at hk
          exact .inr (by omega)
  rcases R.2.2 with ⟨rfl, a1, c, rfl, hnil⟩ | ⟨b, off, c, rfl, h3, h4, hc⟩
  · have hnews : news = [] := List.eq_nil_of_length_eq_zero (by simpa using R.1)
    cases a1 with
    | none =>
      obtain rfl := hnil rfl
      subst hnews
      have hr := run_append_owned_none (P := P) w B T o.type E i sz hT.und hi v n cs hown
      refine ⟨v, w, hexec _ _ hr, World.grownBy.refl _ _, ?_, fun k hk => .inl hk⟩
      simp only [Ent.ok]
      exact ⟨by simpa using hown, by omega⟩
    | some A => exact general A c rfl (fun j u hu => by rw [hnews] at hu; cases hu)
  · exact general ⟨b, off, none⟩ c rfl fun j u hu => by rw [Addr.add_lit]; exact hc j u hu

theorem r_append (hw : Region.wanted o (yielded ops a.tmps) = true) {T E : TypeId} {s x : Operand} {n m sz bytes : Nat} {z v y : Value} {cs news : List Value} (hop : o.op = .call { callee := .builtin .append, args := #[s, x], argTypes := #[T, T] }) (hT : SlT P T E sz bytes z)
    (hs : a.eval s = v) (A : Acc w0 w ⟨false, v, E, sz, n, cs⟩ F) (hx : a.eval x = y) (R : Rd w sz y m news) (h1 : ∀ u ∈ news, u.oneCell' = true) (hn : n + m ≤ 1099511627776)
    (h : ∀ v' w', Sep w0 (F ⟨false, v', E, sz, n + m, cs ++ news⟩) w' → wpList P ops Q rest (a.put o.dst v') w') : wpList P ops Q (o :: rest) a w := by
  obtain ⟨v', w', hr, hg, hok, hk⟩ := run_append (P := P) hop hT hs A.ok A.size hx R h1 hn
  exact r_valw hw hr (h v' w' (A.upd _ _ hg hok hk))

theorem ints_one (xs : List Int) : ∀ u ∈ xs.map (Value.int .i64), u.oneCell' = true := ints_oneCell .i64 xs

/-- Ints behind ints. -/
theorem r_appendInts (hw : Region.wanted o (yielded ops a.tmps) = true) {T E : TypeId} {s x : Operand} {v y : Value} {xs ys : List Int} (hop : o.op = .call { callee := .builtin .append, args := #[s, x], argTypes := #[T, T] }) (hT : SlT P T E 1 8 (.int .i64 0))
    (hs : a.eval s = v) (A : Acc w0 w (ient E v xs) F) (hx : a.eval x = y) (R : Rd w 1 y ys.length (ys.map (Value.int .i64))) (hn : xs.length + ys.length ≤ 1099511627776)
    (h : ∀ v' w', Sep w0 (F (ient E v' (xs ++ ys))) w' → wpList P ops Q rest (a.put o.dst v') w') : wpList P ops Q (o :: rest) a w := by
  refine r_append hw hop hT hs A hx R (ints_one ys) hn fun v' w' S => h v' w' ?_
  simpa [ient] using S

end
end Go.Proofs.Ytjbedonncjppfaa
