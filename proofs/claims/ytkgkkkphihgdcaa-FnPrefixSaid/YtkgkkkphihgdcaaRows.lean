/-
  No cell of these rows narrows 'for every input' (looked for: loops, veiled, ifaces, maps, wideKeys, modest, calm, conditions, laid).
  DERIVED. THE GIVEN ROWS OF THIS SEAT. 9 by the template 'for every input the law returns true; each argument reads behind the call as it read before'; 0 by the template 'total and deterministic' (their statements: YtkgkkkphihgdcaaTotals.lean).
  GIVEN WITH THE SEED: the statements are not yours to turn. If you find one false, say at which input.
  Laid BY PROGRAM, IN A SANDBOX (cutbox-rows.mjs): the forced cells as the released guide's own fill.sh prints them over the translation ade6d0d6c6f0d857… (all of the seat's roots in one cut). By AI agents, Wed Nov 11 2026. No macro, syntax, notation, axiom, sorry.
-/
import Derived.Test.YtkgkkkphihgdcaaChecked
import GoSem.Claim
import GoSem.ClaimJoined
import GoSem.ClaimMapViews
import Derived.JoinedTies
import Derived.KernelRfl
namespace Go.Proofs.Ytkgkkkphihgdcaa
/- THE CELL 'sum', in the pinned program and in every row, IS THE sha256 OF THE DUMP (.gsa) THAT YtkgkkkphihgdcaaProg.lean LOADS. Nothing in Lean hashes anything: it is a label: what it is worth is what the hold of that sum in a sandbox is worth. -/
noncomputable def Try.pinned : Pinned := { name := "ytkgkkkphihgdcaa", sum := "ade6d0d6c6f0d857065aeaeb275fd6d5836c057772806414e48dc3f78b2b15df", checked := Try.checked }
namespace Rows
def none {H : Type} : Left H := { results := [], args := [] }

/-- 'laws.FnDecodeFewer': WHATEVER THE INPUT: true; the input reads as it did. -/
def fnDecodeFewerSpec : ChangeSpec := { name := "fnDecodeFewer", fn := fun _ => fun
  | [d1, d2] => { results := [.lit (.bool true)], args := [d1, d2] }
  | _ => none }
def fnDecodeFewerRow : OpenClaim := { program := "ytkgkkkphihgdcaa", sum := "ade6d0d6c6f0d857065aeaeb275fd6d5836c057772806414e48dc3f78b2b15df", func := "loop.example/compressionlab/laws.FnDecodeFewer", spec := "fnDecodeFewer", apart := false }
def FnDecodeFewerSaid : Prop := fnDecodeFewerRow.holds Try.pinned (OpenSpec.ofChange fnDecodeFewerSpec)

/-- ITS FALSE NEIGHBOUR: 'it returns false'. Refute it at one input. -/
def fnDecodeFewerWrong : ChangeSpec := { name := "fnDecodeFewer", fn := fun _ => fun
  | [d1, d2] => { results := [.lit (.bool false)], args := [d1, d2] }
  | _ => none }
def FnDecodeFewerWrongFalsely : Prop := fnDecodeFewerRow.holds Try.pinned (OpenSpec.ofChange fnDecodeFewerWrong)

/-- 'laws.FnDecodeTorn': WHATEVER THE INPUT: true; the input reads as it did. -/
def fnDecodeTornSpec : ChangeSpec := { name := "fnDecodeTorn", fn := fun _ => fun
  | [d] => { results := [.lit (.bool true)], args := [d] }
  | _ => none }
def fnDecodeTornRow : OpenClaim := { program := "ytkgkkkphihgdcaa", sum := "ade6d0d6c6f0d857065aeaeb275fd6d5836c057772806414e48dc3f78b2b15df", func := "loop.example/compressionlab/laws.FnDecodeTorn", spec := "fnDecodeTorn", apart := false }
def FnDecodeTornSaid : Prop := fnDecodeTornRow.holds Try.pinned (OpenSpec.ofChange fnDecodeTornSpec)

/-- ITS FALSE NEIGHBOUR: 'it returns false'. Refute it at one input. -/
def fnDecodeTornWrong : ChangeSpec := { name := "fnDecodeTorn", fn := fun _ => fun
  | [d] => { results := [.lit (.bool false)], args := [d] }
  | _ => none }
def FnDecodeTornWrongFalsely : Prop := fnDecodeTornRow.holds Try.pinned (OpenSpec.ofChange fnDecodeTornWrong)

/-- 'laws.FnDecode': WHATEVER THE INPUT: true; the input reads as it did. -/
def fnDecodeSpec : ChangeSpec := { name := "fnDecode", fn := fun _ => fun
  | [d] => { results := [.lit (.bool true)], args := [d] }
  | _ => none }
def fnDecodeRow : OpenClaim := { program := "ytkgkkkphihgdcaa", sum := "ade6d0d6c6f0d857065aeaeb275fd6d5836c057772806414e48dc3f78b2b15df", func := "loop.example/compressionlab/laws.FnDecode", spec := "fnDecode", apart := false }
def FnDecodeSaid : Prop := fnDecodeRow.holds Try.pinned (OpenSpec.ofChange fnDecodeSpec)

/-- ITS FALSE NEIGHBOUR: 'it returns false'. Refute it at one input. -/
def fnDecodeWrong : ChangeSpec := { name := "fnDecode", fn := fun _ => fun
  | [d] => { results := [.lit (.bool false)], args := [d] }
  | _ => none }
def FnDecodeWrongFalsely : Prop := fnDecodeRow.holds Try.pinned (OpenSpec.ofChange fnDecodeWrong)

/-- 'laws.FnLengthsPart': WHATEVER THE INPUT: true; the input reads as it did. -/
def fnLengthsPartSpec : ChangeSpec := { name := "fnLengthsPart", fn := fun _ => fun
  | [d1, d2] => { results := [.lit (.bool true)], args := [d1, d2] }
  | _ => none }
def fnLengthsPartRow : OpenClaim := { program := "ytkgkkkphihgdcaa", sum := "ade6d0d6c6f0d857065aeaeb275fd6d5836c057772806414e48dc3f78b2b15df", func := "loop.example/compressionlab/laws.FnLengthsPart", spec := "fnLengthsPart", apart := false }
def FnLengthsPartSaid : Prop := fnLengthsPartRow.holds Try.pinned (OpenSpec.ofChange fnLengthsPartSpec)

/-- ITS FALSE NEIGHBOUR: 'it returns false'. Refute it at one input. -/
def fnLengthsPartWrong : ChangeSpec := { name := "fnLengthsPart", fn := fun _ => fun
  | [d1, d2] => { results := [.lit (.bool false)], args := [d1, d2] }
  | _ => none }
def FnLengthsPartWrongFalsely : Prop := fnLengthsPartRow.holds Try.pinned (OpenSpec.ofChange fnLengthsPartWrong)

/-- 'laws.FnCost': WHATEVER THE INPUT: true; the input reads as it did. -/
def fnCostSpec : ChangeSpec := { name := "fnCost", fn := fun _ => fun
  | [d] => { results := [.lit (.bool true)], args := [d] }
  | _ => none }
def fnCostRow : OpenClaim := { program := "ytkgkkkphihgdcaa", sum := "ade6d0d6c6f0d857065aeaeb275fd6d5836c057772806414e48dc3f78b2b15df", func := "loop.example/compressionlab/laws.FnCost", spec := "fnCost", apart := false }
def FnCostSaid : Prop := fnCostRow.holds Try.pinned (OpenSpec.ofChange fnCostSpec)

/-- ITS FALSE NEIGHBOUR: 'it returns false'. Refute it at one input. -/
def fnCostWrong : ChangeSpec := { name := "fnCost", fn := fun _ => fun
  | [d] => { results := [.lit (.bool false)], args := [d] }
  | _ => none }
def FnCostWrongFalsely : Prop := fnCostRow.holds Try.pinned (OpenSpec.ofChange fnCostWrong)

/-- 'laws.FnCodes': WHATEVER THE INPUT: true; the input reads as it did. -/
def fnCodesSpec : ChangeSpec := { name := "fnCodes", fn := fun _ => fun
  | [d] => { results := [.lit (.bool true)], args := [d] }
  | _ => none }
def fnCodesRow : OpenClaim := { program := "ytkgkkkphihgdcaa", sum := "ade6d0d6c6f0d857065aeaeb275fd6d5836c057772806414e48dc3f78b2b15df", func := "loop.example/compressionlab/laws.FnCodes", spec := "fnCodes", apart := false }
def FnCodesSaid : Prop := fnCodesRow.holds Try.pinned (OpenSpec.ofChange fnCodesSpec)

/-- ITS FALSE NEIGHBOUR: 'it returns false'. Refute it at one input. -/
def fnCodesWrong : ChangeSpec := { name := "fnCodes", fn := fun _ => fun
  | [d] => { results := [.lit (.bool false)], args := [d] }
  | _ => none }
def FnCodesWrongFalsely : Prop := fnCodesRow.holds Try.pinned (OpenSpec.ofChange fnCodesWrong)

/-- 'laws.FnCodesOrder': WHATEVER THE INPUT: true; the input reads as it did. -/
def fnCodesOrderSpec : ChangeSpec := { name := "fnCodesOrder", fn := fun _ => fun
  | [d] => { results := [.lit (.bool true)], args := [d] }
  | _ => none }
def fnCodesOrderRow : OpenClaim := { program := "ytkgkkkphihgdcaa", sum := "ade6d0d6c6f0d857065aeaeb275fd6d5836c057772806414e48dc3f78b2b15df", func := "loop.example/compressionlab/laws.FnCodesOrder", spec := "fnCodesOrder", apart := false }
def FnCodesOrderSaid : Prop := fnCodesOrderRow.holds Try.pinned (OpenSpec.ofChange fnCodesOrderSpec)

/-- ITS FALSE NEIGHBOUR: 'it returns false'. Refute it at one input. -/
def fnCodesOrderWrong : ChangeSpec := { name := "fnCodesOrder", fn := fun _ => fun
  | [d] => { results := [.lit (.bool false)], args := [d] }
  | _ => none }
def FnCodesOrderWrongFalsely : Prop := fnCodesOrderRow.holds Try.pinned (OpenSpec.ofChange fnCodesOrderWrong)

/-- 'laws.FnPrefixJoin': WHATEVER THE INPUT: true; the input reads as it did. -/
def fnPrefixJoinSpec : ChangeSpec := { name := "fnPrefixJoin", fn := fun _ => fun
  | [d1, d2] => { results := [.lit (.bool true)], args := [d1, d2] }
  | _ => none }
def fnPrefixJoinRow : OpenClaim := { program := "ytkgkkkphihgdcaa", sum := "ade6d0d6c6f0d857065aeaeb275fd6d5836c057772806414e48dc3f78b2b15df", func := "loop.example/compressionlab/laws.FnPrefixJoin", spec := "fnPrefixJoin", apart := false }
def FnPrefixJoinSaid : Prop := fnPrefixJoinRow.holds Try.pinned (OpenSpec.ofChange fnPrefixJoinSpec)

/-- ITS FALSE NEIGHBOUR: 'it returns false'. Refute it at one input. -/
def fnPrefixJoinWrong : ChangeSpec := { name := "fnPrefixJoin", fn := fun _ => fun
  | [d1, d2] => { results := [.lit (.bool false)], args := [d1, d2] }
  | _ => none }
def FnPrefixJoinWrongFalsely : Prop := fnPrefixJoinRow.holds Try.pinned (OpenSpec.ofChange fnPrefixJoinWrong)

/-- 'laws.FnPrefix': WHATEVER THE INPUT: true; the input reads as it did. -/
def fnPrefixSpec : ChangeSpec := { name := "fnPrefix", fn := fun _ => fun
  | [d] => { results := [.lit (.bool true)], args := [d] }
  | _ => none }
def fnPrefixRow : OpenClaim := { program := "ytkgkkkphihgdcaa", sum := "ade6d0d6c6f0d857065aeaeb275fd6d5836c057772806414e48dc3f78b2b15df", func := "loop.example/compressionlab/laws.FnPrefix", spec := "fnPrefix", apart := false }
def FnPrefixSaid : Prop := fnPrefixRow.holds Try.pinned (OpenSpec.ofChange fnPrefixSpec)

/-- ITS FALSE NEIGHBOUR: 'it returns false'. Refute it at one input. -/
def fnPrefixWrong : ChangeSpec := { name := "fnPrefix", fn := fun _ => fun
  | [d] => { results := [.lit (.bool false)], args := [d] }
  | _ => none }
def FnPrefixWrongFalsely : Prop := fnPrefixRow.holds Try.pinned (OpenSpec.ofChange fnPrefixWrong)

/- THE SECOND FORM. 'bulk': how many values and letters a reading holds, each counted each time it is reached (what is shared counts as often as it is met; a slice's spare places count too). A statement '..UptoSaid' is the law's where the arguments, and the package variables that the reading takes, are together of bulk at most 1048576: NARROWER than '..Said'. Prove '..Said' where nothing that the law and all that it calls make is longer than what came in: it says more and counts as full. Else prove '..UptoSaid'. A law counts once. -/
mutual
def uptoBulk {H : Type} : DataW H → Nat
  | .lit (.string bytes) => bytes.length + 1
  | .lit _ => 1
  | .nil => 1
  | .ptr d => uptoBulk d + 1
  | .slice elems spare => uptoBulkAll elems + uptoBulkAll spare + 1
  | .agg parts => uptoBulkAll parts + 1
  | .iface _ d => uptoBulk d + 1
  | .map entries => uptoBulkEntries entries + 1
  | .held _ => 1
def uptoBulkAll {H : Type} : List (DataW H) → Nat
  | [] => 0
  | d :: r => uptoBulk d + uptoBulkAll r
def uptoBulkEntries {H : Type} : List (Lit × DataW H) → Nat
  | [] => 0
  | x :: r => uptoBulkEntry x + uptoBulkEntries r
def uptoBulkEntry {H : Type} : Lit × DataW H → Nat
  | (.string bytes, d) => bytes.length + uptoBulk d + 1
  | (_, d) => uptoBulk d + 1
 end
def uptoSmall : (H : Type) → List (DataW H) → Bool := fun _ ds => decide (uptoBulkAll ds ≤ 1048576)
def OpenSpec.upto (s : _root_.Go.ChangeSpec) : _root_.Go.OpenSpec := { _root_.Go.OpenSpec.ofChange s with cond := some uptoSmall }

/-- 'laws.FnDecodeFewer', WHERE WHAT IT READS IS OF BULK AT MOST 1048576: true; the input reads as it did. -/
def fnDecodeFewerUptoRow : OpenClaim := { program := "ytkgkkkphihgdcaa", sum := "ade6d0d6c6f0d857065aeaeb275fd6d5836c057772806414e48dc3f78b2b15df", func := "loop.example/compressionlab/laws.FnDecodeFewer", spec := "fnDecodeFewer", apart := false, narrowed := true }
def FnDecodeFewerUptoSaid : Prop := fnDecodeFewerUptoRow.holds Try.pinned (OpenSpec.upto fnDecodeFewerSpec)

/-- 'laws.FnDecodeTorn', WHERE WHAT IT READS IS OF BULK AT MOST 1048576: true; the input reads as it did. -/
def fnDecodeTornUptoRow : OpenClaim := { program := "ytkgkkkphihgdcaa", sum := "ade6d0d6c6f0d857065aeaeb275fd6d5836c057772806414e48dc3f78b2b15df", func := "loop.example/compressionlab/laws.FnDecodeTorn", spec := "fnDecodeTorn", apart := false, narrowed := true }
def FnDecodeTornUptoSaid : Prop := fnDecodeTornUptoRow.holds Try.pinned (OpenSpec.upto fnDecodeTornSpec)

/-- 'laws.FnDecode', WHERE WHAT IT READS IS OF BULK AT MOST 1048576: true; the input reads as it did. -/
def fnDecodeUptoRow : OpenClaim := { program := "ytkgkkkphihgdcaa", sum := "ade6d0d6c6f0d857065aeaeb275fd6d5836c057772806414e48dc3f78b2b15df", func := "loop.example/compressionlab/laws.FnDecode", spec := "fnDecode", apart := false, narrowed := true }
def FnDecodeUptoSaid : Prop := fnDecodeUptoRow.holds Try.pinned (OpenSpec.upto fnDecodeSpec)

/-- 'laws.FnLengthsPart', WHERE WHAT IT READS IS OF BULK AT MOST 1048576: true; the input reads as it did. -/
def fnLengthsPartUptoRow : OpenClaim := { program := "ytkgkkkphihgdcaa", sum := "ade6d0d6c6f0d857065aeaeb275fd6d5836c057772806414e48dc3f78b2b15df", func := "loop.example/compressionlab/laws.FnLengthsPart", spec := "fnLengthsPart", apart := false, narrowed := true }
def FnLengthsPartUptoSaid : Prop := fnLengthsPartUptoRow.holds Try.pinned (OpenSpec.upto fnLengthsPartSpec)

/-- 'laws.FnCost', WHERE WHAT IT READS IS OF BULK AT MOST 1048576: true; the input reads as it did. -/
def fnCostUptoRow : OpenClaim := { program := "ytkgkkkphihgdcaa", sum := "ade6d0d6c6f0d857065aeaeb275fd6d5836c057772806414e48dc3f78b2b15df", func := "loop.example/compressionlab/laws.FnCost", spec := "fnCost", apart := false, narrowed := true }
def FnCostUptoSaid : Prop := fnCostUptoRow.holds Try.pinned (OpenSpec.upto fnCostSpec)

/-- 'laws.FnCodes', WHERE WHAT IT READS IS OF BULK AT MOST 1048576: true; the input reads as it did. -/
def fnCodesUptoRow : OpenClaim := { program := "ytkgkkkphihgdcaa", sum := "ade6d0d6c6f0d857065aeaeb275fd6d5836c057772806414e48dc3f78b2b15df", func := "loop.example/compressionlab/laws.FnCodes", spec := "fnCodes", apart := false, narrowed := true }
def FnCodesUptoSaid : Prop := fnCodesUptoRow.holds Try.pinned (OpenSpec.upto fnCodesSpec)

/-- 'laws.FnCodesOrder', WHERE WHAT IT READS IS OF BULK AT MOST 1048576: true; the input reads as it did. -/
def fnCodesOrderUptoRow : OpenClaim := { program := "ytkgkkkphihgdcaa", sum := "ade6d0d6c6f0d857065aeaeb275fd6d5836c057772806414e48dc3f78b2b15df", func := "loop.example/compressionlab/laws.FnCodesOrder", spec := "fnCodesOrder", apart := false, narrowed := true }
def FnCodesOrderUptoSaid : Prop := fnCodesOrderUptoRow.holds Try.pinned (OpenSpec.upto fnCodesOrderSpec)

/-- 'laws.FnPrefixJoin', WHERE WHAT IT READS IS OF BULK AT MOST 1048576: true; the input reads as it did. -/
def fnPrefixJoinUptoRow : OpenClaim := { program := "ytkgkkkphihgdcaa", sum := "ade6d0d6c6f0d857065aeaeb275fd6d5836c057772806414e48dc3f78b2b15df", func := "loop.example/compressionlab/laws.FnPrefixJoin", spec := "fnPrefixJoin", apart := false, narrowed := true }
def FnPrefixJoinUptoSaid : Prop := fnPrefixJoinUptoRow.holds Try.pinned (OpenSpec.upto fnPrefixJoinSpec)

/-- 'laws.FnPrefix', WHERE WHAT IT READS IS OF BULK AT MOST 1048576: true; the input reads as it did. -/
def fnPrefixUptoRow : OpenClaim := { program := "ytkgkkkphihgdcaa", sum := "ade6d0d6c6f0d857065aeaeb275fd6d5836c057772806414e48dc3f78b2b15df", func := "loop.example/compressionlab/laws.FnPrefix", spec := "fnPrefix", apart := false, narrowed := true }
def FnPrefixUptoSaid : Prop := fnPrefixUptoRow.holds Try.pinned (OpenSpec.upto fnPrefixSpec)

end Rows
end Go.Proofs.Ytkgkkkphihgdcaa
