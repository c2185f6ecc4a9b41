/-
  What the walk is told of a slice of integers that came in, and how it reads.
-/
import Derived.Test.YtjbedonncjppfaaRules4
namespace Go.Proofs.Ytjbedonncjppfaa
set_option linter.unusedVariables false
set_option linter.unusedSimpArgs false
set_option linter.unnecessarySimpa false
open Go.RowKit

/-- A slice of integers that came in: nil, or a row of cells. -/
def IsRow (k : IntKind) (w : World) (a : Option Addr) (len cap : Nat) (zs : List Int) : Prop :=
  (a = none ∧ len = 0 ∧ cap = 0 ∧ zs = []) ∨
  ∃ x, a = some x ∧ len ≤ cap ∧ cap ≤ maxLen ∧ zs.length = cap ∧ (∀ i, i < zs.length → w.cell? (x.add i) = some (.int k (zs.getD i 0))) ∧ ∀ n ∈ zs, (Lit.int k n).wf = true

theorem wf_i64 {n : Int} (h : (Lit.int .i64 n).wf = true) : I64 n := by
  have : -9223372036854775808 ≤ n ∧ n ≤ 9223372036854775807 := by simpa [Lit.wf, IntKind.min, IntKind.max, IntKind.signed, IntKind.bits] using h
  exact this

theorem wf_u8 {n : Int} (h : (Lit.int .u8 n).wf = true) : 0 ≤ n ∧ n ≤ 255 := by
  simpa [Lit.wf, IntKind.min, IntKind.max, IntKind.signed, IntKind.bits] using h

theorem rd_of_row {k : IntKind} {w : World} {a : Option Addr} {len cap : Nat} {zs : List Int} (h : IsRow k w a len cap zs) (hl : len ≤ 1099511627776) :
    Rd w 1 (.slice a len cap) len ((zs.take len).map (Value.int k)) ∧ (zs.take len).length = len := by
  rcases h with ⟨rfl, rfl, rfl, rfl⟩ | ⟨x, rfl, h1, h2, h3, h4, h5⟩
  · exact ⟨⟨by simp, by omega, .inl ⟨rfl, none, 0, rfl, fun _ => rfl⟩⟩, rfl⟩
  · have hlen : (zs.take len).length = len := by simp; omega
    refine ⟨⟨by simp; omega, hl, ?_⟩, hlen⟩
    obtain ⟨b, o, s⟩ := x
    cases s with
    | none =>
      refine .inr ⟨b, o, cap, rfl, h1, h2, fun j u hu => ?_⟩
      have hj : j < len := by
        have := (List.getElem?_eq_some_iff.1 hu).1
        rw [List.length_map, hlen] at this
        exact this
      have := h4 j (by omega)
      rw [Addr.add_lit] at this
      rw [this]
      have e : ((zs.take len).map (Value.int k))[j]? = some (.int k (zs.getD j 0)) := by
        simp [List.getD, hj, show j < zs.length by omega]
      rw [e] at hu
      exact hu
    | some t =>
      cases zs with
      | nil =>
        simp at h3
        obtain rfl : len = 0 := by omega
        exact .inl ⟨rfl, _, cap, rfl, fun h => by cases h⟩
      | cons z zs =>
        have := h4 0 (by simp)
        simp [Addr.add, World.cell?] at this
        split at this <;> simp_all

theorem ints_of_row {w : World} {a : Option Addr} {len cap : Nat} {zs : List Int} (h : IsRow .i64 w a len cap zs) (hl : len ≤ 1099511627776) :
    Ints w (.slice a len cap) (zs.take len) ∧ (zs.take len).length = len := by
  obtain ⟨h1, h2⟩ := rd_of_row h hl
  refine ⟨⟨by rw [h2]; exact h1, fun x hx => ?_⟩, h2⟩
  rcases h with ⟨_, _, _, rfl⟩ | ⟨_, _, _, _, _, _, h5⟩
  · simp at hx
  · exact wf_i64 (h5 x (List.mem_of_mem_take hx))

end Go.Proofs.Ytjbedonncjppfaa
