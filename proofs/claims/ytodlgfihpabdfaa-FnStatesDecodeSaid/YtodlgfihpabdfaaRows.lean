/-
  No cell of these rows narrows 'for every input' (looked for: loops, veiled, ifaces, maps, wideKeys, modest, calm, conditions, laid).
  DERIVED. THE GIVEN ROWS OF THIS SEAT. 11 by the template 'for every input the law returns true; each argument reads behind the call as it read before'; 0 by the template 'total and deterministic' (their statements: YtodlgfihpabdfaaTotals.lean).
  GIVEN WITH THE SEED: the statements are not yours to turn. If you find one false, say at which input.
  Laid BY PROGRAM, IN A SANDBOX (cutbox-rows.mjs): the forced cells as the released guide's own fill.sh prints them over the translation 56eb5876724269de… (all of the seat's roots in one cut). By AI agents, Wed Nov 11 2026. No macro, syntax, notation, axiom, sorry.
-/
import Derived.Test.YtodlgfihpabdfaaChecked
import GoSem.Claim
import GoSem.ClaimJoined
import GoSem.ClaimMapViews
import Derived.JoinedTies
import Derived.KernelRfl
namespace Go.Proofs.Ytodlgfihpabdfaa
/- THE CELL 'sum', in the pinned program and in every row, IS THE sha256 OF THE DUMP (.gsa) THAT YtodlgfihpabdfaaProg.lean LOADS. Nothing in Lean hashes anything: it is a label: what it is worth is what the hold of that sum in a sandbox is worth. -/
noncomputable def Try.pinned : Pinned := { name := "ytodlgfihpabdfaa", sum := "56eb5876724269de4f481c42b0bbd6bef10103aea7741867ab047544b1502104", checked := Try.checked }
namespace Rows
def none {H : Type} : Left H := { results := [], args := [] }

/-- 'laws.FnCrcEnd': WHATEVER THE INPUT: true; the input reads as it did. -/
def fnCrcEndSpec : ChangeSpec := { name := "fnCrcEnd", fn := fun _ => fun
  | [d] => { results := [.lit (.bool true)], args := [d] }
  | _ => none }
def fnCrcEndRow : OpenClaim := { program := "ytodlgfihpabdfaa", sum := "56eb5876724269de4f481c42b0bbd6bef10103aea7741867ab047544b1502104", func := "loop.example/compressionlab/laws.FnCrcEnd", spec := "fnCrcEnd", apart := false }
def FnCrcEndSaid : Prop := fnCrcEndRow.holds Try.pinned (OpenSpec.ofChange fnCrcEndSpec)

/-- ITS FALSE NEIGHBOUR: 'it returns false'. Refute it at one input. -/
def fnCrcEndWrong : ChangeSpec := { name := "fnCrcEnd", fn := fun _ => fun
  | [d] => { results := [.lit (.bool false)], args := [d] }
  | _ => none }
def FnCrcEndWrongFalsely : Prop := fnCrcEndRow.holds Try.pinned (OpenSpec.ofChange fnCrcEndWrong)

/-- 'laws.FnCrcZero': WHATEVER THE INPUT: true; the input reads as it did. -/
def fnCrcZeroSpec : ChangeSpec := { name := "fnCrcZero", fn := fun _ => fun
  | [d] => { results := [.lit (.bool true)], args := [d] }
  | _ => none }
def fnCrcZeroRow : OpenClaim := { program := "ytodlgfihpabdfaa", sum := "56eb5876724269de4f481c42b0bbd6bef10103aea7741867ab047544b1502104", func := "loop.example/compressionlab/laws.FnCrcZero", spec := "fnCrcZero", apart := false }
def FnCrcZeroSaid : Prop := fnCrcZeroRow.holds Try.pinned (OpenSpec.ofChange fnCrcZeroSpec)

/-- ITS FALSE NEIGHBOUR: 'it returns false'. Refute it at one input. -/
def fnCrcZeroWrong : ChangeSpec := { name := "fnCrcZero", fn := fun _ => fun
  | [d] => { results := [.lit (.bool false)], args := [d] }
  | _ => none }
def FnCrcZeroWrongFalsely : Prop := fnCrcZeroRow.holds Try.pinned (OpenSpec.ofChange fnCrcZeroWrong)

/-- 'laws.FnCrc': WHATEVER THE INPUT: true; the input reads as it did. -/
def fnCrcSpec : ChangeSpec := { name := "fnCrc", fn := fun _ => fun
  | [d1, d2] => { results := [.lit (.bool true)], args := [d1, d2] }
  | _ => none }
def fnCrcRow : OpenClaim := { program := "ytodlgfihpabdfaa", sum := "56eb5876724269de4f481c42b0bbd6bef10103aea7741867ab047544b1502104", func := "loop.example/compressionlab/laws.FnCrc", spec := "fnCrc", apart := false }
def FnCrcSaid : Prop := fnCrcRow.holds Try.pinned (OpenSpec.ofChange fnCrcSpec)

/-- ITS FALSE NEIGHBOUR: 'it returns false'. Refute it at one input. -/
def fnCrcWrong : ChangeSpec := { name := "fnCrc", fn := fun _ => fun
  | [d1, d2] => { results := [.lit (.bool false)], args := [d1, d2] }
  | _ => none }
def FnCrcWrongFalsely : Prop := fnCrcRow.holds Try.pinned (OpenSpec.ofChange fnCrcWrong)

/-- 'laws.FnFreqsPart': WHATEVER THE INPUT: true; the input reads as it did. -/
def fnFreqsPartSpec : ChangeSpec := { name := "fnFreqsPart", fn := fun _ => fun
  | [d1, d2] => { results := [.lit (.bool true)], args := [d1, d2] }
  | _ => none }
def fnFreqsPartRow : OpenClaim := { program := "ytodlgfihpabdfaa", sum := "56eb5876724269de4f481c42b0bbd6bef10103aea7741867ab047544b1502104", func := "loop.example/compressionlab/laws.FnFreqsPart", spec := "fnFreqsPart", apart := false }
def FnFreqsPartSaid : Prop := fnFreqsPartRow.holds Try.pinned (OpenSpec.ofChange fnFreqsPartSpec)

/-- ITS FALSE NEIGHBOUR: 'it returns false'. Refute it at one input. -/
def fnFreqsPartWrong : ChangeSpec := { name := "fnFreqsPart", fn := fun _ => fun
  | [d1, d2] => { results := [.lit (.bool false)], args := [d1, d2] }
  | _ => none }
def FnFreqsPartWrongFalsely : Prop := fnFreqsPartRow.holds Try.pinned (OpenSpec.ofChange fnFreqsPartWrong)

/-- 'laws.FnStatesBytes': WHATEVER THE INPUT: true; the input reads as it did. -/
def fnStatesBytesSpec : ChangeSpec := { name := "fnStatesBytes", fn := fun _ => fun
  | [d] => { results := [.lit (.bool true)], args := [d] }
  | _ => none }
def fnStatesBytesRow : OpenClaim := { program := "ytodlgfihpabdfaa", sum := "56eb5876724269de4f481c42b0bbd6bef10103aea7741867ab047544b1502104", func := "loop.example/compressionlab/laws.FnStatesBytes", spec := "fnStatesBytes", apart := false }
def FnStatesBytesSaid : Prop := fnStatesBytesRow.holds Try.pinned (OpenSpec.ofChange fnStatesBytesSpec)

/-- ITS FALSE NEIGHBOUR: 'it returns false'. Refute it at one input. -/
def fnStatesBytesWrong : ChangeSpec := { name := "fnStatesBytes", fn := fun _ => fun
  | [d] => { results := [.lit (.bool false)], args := [d] }
  | _ => none }
def FnStatesBytesWrongFalsely : Prop := fnStatesBytesRow.holds Try.pinned (OpenSpec.ofChange fnStatesBytesWrong)

/-- 'laws.FnStatesRange': WHATEVER THE INPUT: true; the input reads as it did. -/
def fnStatesRangeSpec : ChangeSpec := { name := "fnStatesRange", fn := fun _ => fun
  | [d] => { results := [.lit (.bool true)], args := [d] }
  | _ => none }
def fnStatesRangeRow : OpenClaim := { program := "ytodlgfihpabdfaa", sum := "56eb5876724269de4f481c42b0bbd6bef10103aea7741867ab047544b1502104", func := "loop.example/compressionlab/laws.FnStatesRange", spec := "fnStatesRange", apart := false }
def FnStatesRangeSaid : Prop := fnStatesRangeRow.holds Try.pinned (OpenSpec.ofChange fnStatesRangeSpec)

/-- ITS FALSE NEIGHBOUR: 'it returns false'. Refute it at one input. -/
def fnStatesRangeWrong : ChangeSpec := { name := "fnStatesRange", fn := fun _ => fun
  | [d] => { results := [.lit (.bool false)], args := [d] }
  | _ => none }
def FnStatesRangeWrongFalsely : Prop := fnStatesRangeRow.holds Try.pinned (OpenSpec.ofChange fnStatesRangeWrong)

/-- 'laws.FnStatesSure': WHATEVER THE INPUT: true; the input reads as it did. -/
def fnStatesSureSpec : ChangeSpec := { name := "fnStatesSure", fn := fun _ => fun
  | [d1, d2] => { results := [.lit (.bool true)], args := [d1, d2] }
  | _ => none }
def fnStatesSureRow : OpenClaim := { program := "ytodlgfihpabdfaa", sum := "56eb5876724269de4f481c42b0bbd6bef10103aea7741867ab047544b1502104", func := "loop.example/compressionlab/laws.FnStatesSure", spec := "fnStatesSure", apart := false }
def FnStatesSureSaid : Prop := fnStatesSureRow.holds Try.pinned (OpenSpec.ofChange fnStatesSureSpec)

/-- ITS FALSE NEIGHBOUR: 'it returns false'. Refute it at one input. -/
def fnStatesSureWrong : ChangeSpec := { name := "fnStatesSure", fn := fun _ => fun
  | [d1, d2] => { results := [.lit (.bool false)], args := [d1, d2] }
  | _ => none }
def FnStatesSureWrongFalsely : Prop := fnStatesSureRow.holds Try.pinned (OpenSpec.ofChange fnStatesSureWrong)

/-- 'laws.FnStatesWhen': WHATEVER THE INPUT: true; the input reads as it did. -/
def fnStatesWhenSpec : ChangeSpec := { name := "fnStatesWhen", fn := fun _ => fun
  | [d] => { results := [.lit (.bool true)], args := [d] }
  | _ => none }
def fnStatesWhenRow : OpenClaim := { program := "ytodlgfihpabdfaa", sum := "56eb5876724269de4f481c42b0bbd6bef10103aea7741867ab047544b1502104", func := "loop.example/compressionlab/laws.FnStatesWhen", spec := "fnStatesWhen", apart := false }
def FnStatesWhenSaid : Prop := fnStatesWhenRow.holds Try.pinned (OpenSpec.ofChange fnStatesWhenSpec)

/-- ITS FALSE NEIGHBOUR: 'it returns false'. Refute it at one input. -/
def fnStatesWhenWrong : ChangeSpec := { name := "fnStatesWhen", fn := fun _ => fun
  | [d] => { results := [.lit (.bool false)], args := [d] }
  | _ => none }
def FnStatesWhenWrongFalsely : Prop := fnStatesWhenRow.holds Try.pinned (OpenSpec.ofChange fnStatesWhenWrong)

/-- 'laws.FnStates': WHATEVER THE INPUT: true; the input reads as it did. -/
def fnStatesSpec : ChangeSpec := { name := "fnStates", fn := fun _ => fun
  | [d] => { results := [.lit (.bool true)], args := [d] }
  | _ => none }
def fnStatesRow : OpenClaim := { program := "ytodlgfihpabdfaa", sum := "56eb5876724269de4f481c42b0bbd6bef10103aea7741867ab047544b1502104", func := "loop.example/compressionlab/laws.FnStates", spec := "fnStates", apart := false }
def FnStatesSaid : Prop := fnStatesRow.holds Try.pinned (OpenSpec.ofChange fnStatesSpec)

/-- ITS FALSE NEIGHBOUR: 'it returns false'. Refute it at one input. -/
def fnStatesWrong : ChangeSpec := { name := "fnStates", fn := fun _ => fun
  | [d] => { results := [.lit (.bool false)], args := [d] }
  | _ => none }
def FnStatesWrongFalsely : Prop := fnStatesRow.holds Try.pinned (OpenSpec.ofChange fnStatesWrong)

/-- 'laws.FnStatesDecode': WHATEVER THE INPUT: true; the input reads as it did. -/
def fnStatesDecodeSpec : ChangeSpec := { name := "fnStatesDecode", fn := fun _ => fun
  | [d] => { results := [.lit (.bool true)], args := [d] }
  | _ => none }
def fnStatesDecodeRow : OpenClaim := { program := "ytodlgfihpabdfaa", sum := "56eb5876724269de4f481c42b0bbd6bef10103aea7741867ab047544b1502104", func := "loop.example/compressionlab/laws.FnStatesDecode", spec := "fnStatesDecode", apart := false }
def FnStatesDecodeSaid : Prop := fnStatesDecodeRow.holds Try.pinned (OpenSpec.ofChange fnStatesDecodeSpec)

/-- ITS FALSE NEIGHBOUR: 'it returns false'. Refute it at one input. -/
def fnStatesDecodeWrong : ChangeSpec := { name := "fnStatesDecode", fn := fun _ => fun
  | [d] => { results := [.lit (.bool false)], args := [d] }
  | _ => none }
def FnStatesDecodeWrongFalsely : Prop := fnStatesDecodeRow.holds Try.pinned (OpenSpec.ofChange fnStatesDecodeWrong)

/-- 'laws.FnStatesMore': WHATEVER THE INPUT: true; the input reads as it did. -/
def fnStatesMoreSpec : ChangeSpec := { name := "fnStatesMore", fn := fun _ => fun
  | [d] => { results := [.lit (.bool true)], args := [d] }
  | _ => none }
def fnStatesMoreRow : OpenClaim := { program := "ytodlgfihpabdfaa", sum := "56eb5876724269de4f481c42b0bbd6bef10103aea7741867ab047544b1502104", func := "loop.example/compressionlab/laws.FnStatesMore", spec := "fnStatesMore", apart := false }
def FnStatesMoreSaid : Prop := fnStatesMoreRow.holds Try.pinned (OpenSpec.ofChange fnStatesMoreSpec)

/-- ITS FALSE NEIGHBOUR: 'it returns false'. Refute it at one input. -/
def fnStatesMoreWrong : ChangeSpec := { name := "fnStatesMore", fn := fun _ => fun
  | [d] => { results := [.lit (.bool false)], args := [d] }
  | _ => none }
def FnStatesMoreWrongFalsely : Prop := fnStatesMoreRow.holds Try.pinned (OpenSpec.ofChange fnStatesMoreWrong)

/- THE SECOND FORM. 'bulk': how many values and letters a reading holds, each counted each time it is reached (what is shared counts as often as it is met; a slice's spare places count too). A statement '..UptoSaid' is the law's where the arguments, and the package variables that the reading takes, are together of bulk at most 1048576: NARROWER than '..Said'. Prove '..Said' where nothing that the law and all that it calls make is longer than what came in: it says more and counts as full. Else prove '..UptoSaid'. A law counts once. -/
mutual
def uptoBulk {H : Type} : DataW H → Nat
  | .lit (.string bytes) => bytes.length + 1
  | .lit _ => 1
  | .nil => 1
  | .ptr d => uptoBulk d + 1
  | .slice elems spare => uptoBulkAll elems + uptoBulkAll spare + 1
  | .agg parts => uptoBulkAll parts + 1
  | .iface _ d => uptoBulk d + 1
  | .map entries => uptoBulkEntries entries + 1
  | .held _ => 1
def uptoBulkAll {H : Type} : List (DataW H) → Nat
  | [] => 0
  | d :: r => uptoBulk d + uptoBulkAll r
def uptoBulkEntries {H : Type} : List (Lit × DataW H) → Nat
  | [] => 0
  | x :: r => uptoBulkEntry x + uptoBulkEntries r
def uptoBulkEntry {H : Type} : Lit × DataW H → Nat
  | (.string bytes, d) => bytes.length + uptoBulk d + 1
  | (_, d) => uptoBulk d + 1
 end
def uptoSmall : (H : Type) → List (DataW H) → Bool := fun _ ds => decide (uptoBulkAll ds ≤ 1048576)
def OpenSpec.upto (s : _root_.Go.ChangeSpec) : _root_.Go.OpenSpec := { _root_.Go.OpenSpec.ofChange s with cond := some uptoSmall }

/-- 'laws.FnCrcEnd', WHERE WHAT IT READS IS OF BULK AT MOST 1048576: true; the input reads as it did. -/
def fnCrcEndUptoRow : OpenClaim := { program := "ytodlgfihpabdfaa", sum := "56eb5876724269de4f481c42b0bbd6bef10103aea7741867ab047544b1502104", func := "loop.example/compressionlab/laws.FnCrcEnd", spec := "fnCrcEnd", apart := false, narrowed := true }
def FnCrcEndUptoSaid : Prop := fnCrcEndUptoRow.holds Try.pinned (OpenSpec.upto fnCrcEndSpec)

/-- 'laws.FnCrcZero', WHERE WHAT IT READS IS OF BULK AT MOST 1048576: true; the input reads as it did. -/
def fnCrcZeroUptoRow : OpenClaim := { program := "ytodlgfihpabdfaa", sum := "56eb5876724269de4f481c42b0bbd6bef10103aea7741867ab047544b1502104", func := "loop.example/compressionlab/laws.FnCrcZero", spec := "fnCrcZero", apart := false, narrowed := true }
def FnCrcZeroUptoSaid : Prop := fnCrcZeroUptoRow.holds Try.pinned (OpenSpec.upto fnCrcZeroSpec)

/-- 'laws.FnCrc', WHERE WHAT IT READS IS OF BULK AT MOST 1048576: true; the input reads as it did. -/
def fnCrcUptoRow : OpenClaim := { program := "ytodlgfihpabdfaa", sum := "56eb5876724269de4f481c42b0bbd6bef10103aea7741867ab047544b1502104", func := "loop.example/compressionlab/laws.FnCrc", spec := "fnCrc", apart := false, narrowed := true }
def FnCrcUptoSaid : Prop := fnCrcUptoRow.holds Try.pinned (OpenSpec.upto fnCrcSpec)

/-- 'laws.FnFreqsPart', WHERE WHAT IT READS IS OF BULK AT MOST 1048576: true; the input reads as it did. -/
def fnFreqsPartUptoRow : OpenClaim := { program := "ytodlgfihpabdfaa", sum := "56eb5876724269de4f481c42b0bbd6bef10103aea7741867ab047544b1502104", func := "loop.example/compressionlab/laws.FnFreqsPart", spec := "fnFreqsPart", apart := false, narrowed := true }
def FnFreqsPartUptoSaid : Prop := fnFreqsPartUptoRow.holds Try.pinned (OpenSpec.upto fnFreqsPartSpec)

/-- 'laws.FnStatesBytes', WHERE WHAT IT READS IS OF BULK AT MOST 1048576: true; the input reads as it did. -/
def fnStatesBytesUptoRow : OpenClaim := { program := "ytodlgfihpabdfaa", sum := "56eb5876724269de4f481c42b0bbd6bef10103aea7741867ab047544b1502104", func := "loop.example/compressionlab/laws.FnStatesBytes", spec := "fnStatesBytes", apart := false, narrowed := true }
def FnStatesBytesUptoSaid : Prop := fnStatesBytesUptoRow.holds Try.pinned (OpenSpec.upto fnStatesBytesSpec)

/-- 'laws.FnStatesRange', WHERE WHAT IT READS IS OF BULK AT MOST 1048576: true; the input reads as it did. -/
def fnStatesRangeUptoRow : OpenClaim := { program := "ytodlgfihpabdfaa", sum := "56eb5876724269de4f481c42b0bbd6bef10103aea7741867ab047544b1502104", func := "loop.example/compressionlab/laws.FnStatesRange", spec := "fnStatesRange", apart := false, narrowed := true }
def FnStatesRangeUptoSaid : Prop := fnStatesRangeUptoRow.holds Try.pinned (OpenSpec.upto fnStatesRangeSpec)

/-- 'laws.FnStatesSure', WHERE WHAT IT READS IS OF BULK AT MOST 1048576: true; the input reads as it did. -/
def fnStatesSureUptoRow : OpenClaim := { program := "ytodlgfihpabdfaa", sum := "56eb5876724269de4f481c42b0bbd6bef10103aea7741867ab047544b1502104", func := "loop.example/compressionlab/laws.FnStatesSure", spec := "fnStatesSure", apart := false, narrowed := true }
def FnStatesSureUptoSaid : Prop := fnStatesSureUptoRow.holds Try.pinned (OpenSpec.upto fnStatesSureSpec)

/-- 'laws.FnStatesWhen', WHERE WHAT IT READS IS OF BULK AT MOST 1048576: true; the input reads as it did. -/
def fnStatesWhenUptoRow : OpenClaim := { program := "ytodlgfihpabdfaa", sum := "56eb5876724269de4f481c42b0bbd6bef10103aea7741867ab047544b1502104", func := "loop.example/compressionlab/laws.FnStatesWhen", spec := "fnStatesWhen", apart := false, narrowed := true }
def FnStatesWhenUptoSaid : Prop := fnStatesWhenUptoRow.holds Try.pinned (OpenSpec.upto fnStatesWhenSpec)

/-- 'laws.FnStates', WHERE WHAT IT READS IS OF BULK AT MOST 1048576: true; the input reads as it did. -/
def fnStatesUptoRow : OpenClaim := { program := "ytodlgfihpabdfaa", sum := "56eb5876724269de4f481c42b0bbd6bef10103aea7741867ab047544b1502104", func := "loop.example/compressionlab/laws.FnStates", spec := "fnStates", apart := false, narrowed := true }
def FnStatesUptoSaid : Prop := fnStatesUptoRow.holds Try.pinned (OpenSpec.upto fnStatesSpec)

/-- 'laws.FnStatesDecode', WHERE WHAT IT READS IS OF BULK AT MOST 1048576: true; the input reads as it did. -/
def fnStatesDecodeUptoRow : OpenClaim := { program := "ytodlgfihpabdfaa", sum := "56eb5876724269de4f481c42b0bbd6bef10103aea7741867ab047544b1502104", func := "loop.example/compressionlab/laws.FnStatesDecode", spec := "fnStatesDecode", apart := false, narrowed := true }
def FnStatesDecodeUptoSaid : Prop := fnStatesDecodeUptoRow.holds Try.pinned (OpenSpec.upto fnStatesDecodeSpec)

/-- 'laws.FnStatesMore', WHERE WHAT IT READS IS OF BULK AT MOST 1048576: true; the input reads as it did. -/
def fnStatesMoreUptoRow : OpenClaim := { program := "ytodlgfihpabdfaa", sum := "56eb5876724269de4f481c42b0bbd6bef10103aea7741867ab047544b1502104", func := "loop.example/compressionlab/laws.FnStatesMore", spec := "fnStatesMore", apart := false, narrowed := true }
def FnStatesMoreUptoSaid : Prop := fnStatesMoreUptoRow.holds Try.pinned (OpenSpec.upto fnStatesMoreSpec)

end Rows
end Go.Proofs.Ytodlgfihpabdfaa
