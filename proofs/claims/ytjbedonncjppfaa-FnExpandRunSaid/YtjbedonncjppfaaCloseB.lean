/-
  What the walk is told of a slice of bytes that came in.
-/
import Derived.Test.YtjbedonncjppfaaClose
import Derived.Test.YtjbedonncjppfaaWalk4
namespace Go.Proofs.Ytjbedonncjppfaa
set_option linter.unusedVariables false
set_option linter.unusedSimpArgs false
set_option linter.unnecessarySimpa false
open Go.RowKit Go.ChangeShapes Go.WideShapes

theorem bytes_of_row {w : World} {a : Option Addr} {len cap : Nat} {zs : List Int} (h : IsRow .u8 w a len cap zs) (hl : len ≤ 1099511627776) :
    Byt w (.slice a len cap) (zs.take len) ∧ (zs.take len).length = len := by
  obtain ⟨h1, h2⟩ := rd_of_row h hl
  refine ⟨⟨by rw [h2]; exact h1, fun x hx => ?_⟩, h2⟩
  rcases h with ⟨_, _, _, rfl⟩ | ⟨_, _, _, _, _, _, h5⟩
  · simp at hx
  · exact wf_u8 (h5 x (List.mem_of_mem_take hx))
end Go.Proofs.Ytjbedonncjppfaa
