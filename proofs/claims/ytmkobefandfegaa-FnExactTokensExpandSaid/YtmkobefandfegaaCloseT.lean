/-
  What the walk is told of a slice of tokens that came in, and how it reads.
-/
import Derived.Test.YtmkobefandfegaaClose
import Derived.Test.YtmkobefandfegaaRules6
import Derived.Deep.Slices
import Derived.Deep.Strs
namespace Go.Proofs.Ytmkobefandfegaa
set_option linter.unusedVariables false
set_option linter.unusedSimpArgs false
set_option linter.unnecessarySimpa false
open Go.RowKit Go.ChangeShapes Go.WideShapes

/-- A slice of tokens that came in. -/
def IsToks (w : World) (a : Option Addr) (len cap : Nat) : Prop :=
  (a = none ∧ len = 0 ∧ cap = 0) ∨
  ∃ x, a = some x ∧ len ≤ cap ∧ cap ≤ maxLen ∧ ∀ i, i < len → ∃ t : Tok, TokI t ∧ ∀ j u, (tcs t)[j]? = some u → w.cell? ((x.add (i * 3)).add j) = some u

theorem isToks_of_trod {H : Type} {enc : TypeId × Value → H} {P : Program} {w : World} {base : Nat} {spare : Nat → Bool} {held : Bool} {t e : TypeId} {f0 f1 f2 : Field} {fuel : Nat} {a : Option Addr} {len cap : Nat} {x : DataW H × List MemPlace}
    (ht : P.underlying t = some (.slice e)) (he : P.underlying e = some (.struct #[f0, f1, f2])) (o : f0.offset = 0 ∧ f1.offset = 1 ∧ f2.offset = 2) (c : P.cellsOf e = 3) (c0 : P.cellsOf f0.type = 1 ∧ P.cellsOf f1.type = 1 ∧ P.cellsOf f2.type = 1)
    (h0 : P.underlying f0.type = some (.int .i64)) (h1 : P.underlying f1.type = some (.int .i64)) (h2 : P.underlying f2.type = some (.int .i64))
    (h : DataW.trod enc P w base spare held fuel t (Value.cells (.slice a len cap)).toList = some x) : IsToks w a len cap := by
  rcases Deep.open_slice ht h with ⟨hcs, _⟩ | ⟨A, l, k, m, n, D, Pl, hcs, hb, hl, hm, hmm, _, hx⟩
  · simp [Value.cells] at hcs
    obtain ⟨rfl, rfl, rfl⟩ := hcs
    exact .inl ⟨rfl, rfl, rfl⟩
  · simp [Value.cells] at hcs
    obtain ⟨rfl, rfl, rfl⟩ := hcs
    refine .inr ⟨A, rfl, hl, hm, fun i hi => ?_⟩
    have him : i < m := by rw [hmm]; split <;> omega
    obtain ⟨cs, hc, ht'⟩ := hx i him
    obtain ⟨y0, y1, y2, n', _, hlen, t0, t1, t2⟩ := Deep.trod_struct3 he ht'
    rw [c] at hlen hc
    obtain ⟨v0, v1, v2, rfl⟩ : ∃ v0 v1 v2, cs = [v0, v1, v2] := by
      match cs, hlen with
      | [v0, v1, v2], _ => exact ⟨v0, v1, v2, rfl⟩
    rw [o.1, c0.1] at t0
    rw [o.2.1, c0.2.1] at t1
    rw [o.2.2, c0.2.2] at t2
    obtain ⟨n0, e0, _, w0⟩ := DataW.trod_int h0 t0
    obtain ⟨n1, e1, _, w1⟩ := DataW.trod_int h1 t1
    obtain ⟨n2, e2, _, w2⟩ := DataW.trod_int h2 t2
    simp at e0 e1 e2
    subst e0 e1 e2
    refine ⟨⟨n0, n1, n2⟩, ⟨wf_i64 w0, wf_i64 w1, wf_i64 w2⟩, fun j u hu => ?_⟩
    unfold World.cells? at hc
    split at hc
    · simp [List.range_succ, Option.bind_eq_some_iff] at hc
      match j, hu with
      | 0, hu => simp [tcs] at hu; subst hu; simp_all
      | 1, hu => simp [tcs] at hu; subst hu; simp_all
      | 2, hu => simp [tcs] at hu; subst hu; simp_all
      | j + 3, hu => simp [tcs] at hu
    · cases hc

theorem toks_of_row {w : World} {a : Option Addr} {len cap : Nat} (h : IsToks w a len cap) (hl : len ≤ 1048576) : ∃ ts, Toks w (.slice a len cap) ts ∧ ts.length ≤ 1048576 := by
  rcases h with ⟨rfl, rfl, rfl⟩ | ⟨x, rfl, h1, h2, h3⟩
  · exact ⟨[], ⟨⟨by simp [flat], by simp, .inl ⟨rfl, none, 0, rfl, fun _ => rfl⟩⟩, by simp [AllT]⟩, by simp⟩
  · obtain ⟨ts, hts, hc⟩ : ∃ ts : List Tok, ts.length = len ∧ ∀ i (hi : i < ts.length), TokI ts[i] ∧ ∀ j u, (tcs ts[i])[j]? = some u → w.cell? ((x.add (i * 3)).add j) = some u := by
      refine ⟨(List.range len).attach.map fun i => (h3 i.1 (List.mem_range.1 i.2)).choose, by simp, fun i hi => ?_⟩
      simp only [List.length_map, List.length_attach, List.length_range] at hi
      simp only [List.getElem_map, List.getElem_attach, List.getElem_range]
      exact (h3 i hi).choose_spec
    subst hts
    refine ⟨ts, ⟨?_, fun t ht => ?_⟩, hl⟩
    · obtain ⟨b, o, s⟩ := x
      cases s with
      | none =>
        refine ⟨flat_length ts, by omega, .inr ⟨b, o, cap, rfl, h1, h2, fun j u hu => ?_⟩⟩
        have hj := (List.getElem?_eq_some_iff.1 hu).1
        rw [flat_length] at hj
        have hi : j / 3 < ts.length := by omega
        have hf := flat_at hi
        have e : (tcs ts[j / 3])[j % 3]? = some u := by
          have e1 : ts.getD (j / 3) ⟨0, 0, 0⟩ = ts[j / 3] := by simp [List.getD, hi]
          rw [← e1, ← hf, List.getElem?_take_of_lt (by omega), List.getElem?_drop, show j / 3 * 3 + j % 3 = j by omega]
          exact hu
        have := (hc (j / 3) hi).2 (j % 3) u e
        rw [Addr.add_lit, Addr.add_lit] at this
        rw [show o + j = o + j / 3 * 3 + j % 3 by omega]
        exact this
      | some t =>
        cases ts with
        | nil => exact ⟨by simp [flat], by simp, .inl ⟨rfl, _, cap, rfl, fun h => by cases h⟩⟩
        | cons z zs =>
          have := (hc 0 (by simp)).2 0 _ rfl
          simp [Addr.add, World.cell?] at this
          split at this <;> simp_all
    · obtain ⟨i, hi, rfl⟩ := List.getElem_of_mem ht
      exact (hc i hi).1

end Go.Proofs.Ytmkobefandfegaa
