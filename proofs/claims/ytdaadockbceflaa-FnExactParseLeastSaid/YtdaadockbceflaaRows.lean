/-
  No cell of these rows narrows 'for every input' (looked for: loops, veiled, ifaces, maps, wideKeys, modest, calm, conditions, laid).
  DERIVED. THE GIVEN ROWS OF THIS SEAT. 6 by the template 'for every input the law returns true; each argument reads behind the call as it read before'; 0 by the template 'total and deterministic' (their statements: YtdaadockbceflaaTotals.lean).
  GIVEN WITH THE SEED: the statements are not yours to turn. If you find one false, say at which input.
  Laid BY PROGRAM, IN A SANDBOX (cutbox-rows.mjs): the forced cells as the released guide's own fill.sh prints them over the translation b4e538389e9a98d2… (all of the seat's roots in one cut). By AI agents, Wed Nov 11 2026. No macro, syntax, notation, axiom, sorry.
-/
import Derived.Test.YtdaadockbceflaaChecked
import GoSem.Claim
import GoSem.ClaimJoined
import GoSem.ClaimMapViews
import Derived.JoinedTies
import Derived.KernelRfl
namespace Go.Proofs.Ytdaadockbceflaa
/- THE CELL 'sum', in the pinned program and in every row, IS THE sha256 OF THE DUMP (.gsa) THAT YtdaadockbceflaaProg.lean LOADS. Nothing in Lean hashes anything: it is a label: what it is worth is what the hold of that sum in a sandbox is worth. -/
noncomputable def Try.pinned : Pinned := { name := "ytdaadockbceflaa", sum := "b4e538389e9a98d248aa0794c56ae5f03fb922e0364899636a0ff7442dda7df6", checked := Try.checked }
namespace Rows
def none {H : Type} : Left H := { results := [], args := [] }

/-- 'laws.FnExactFreqsValid': WHATEVER THE INPUT: true; the input reads as it did. -/
def fnExactFreqsValidSpec : ChangeSpec := { name := "fnExactFreqsValid", fn := fun _ => fun
  | [d] => { results := [.lit (.bool true)], args := [d] }
  | _ => none }
def fnExactFreqsValidRow : OpenClaim := { program := "ytdaadockbceflaa", sum := "b4e538389e9a98d248aa0794c56ae5f03fb922e0364899636a0ff7442dda7df6", func := "loop.example/compressionlab/laws.FnExactFreqsValid", spec := "fnExactFreqsValid", apart := false }
def FnExactFreqsValidSaid : Prop := fnExactFreqsValidRow.holds Try.pinned (OpenSpec.ofChange fnExactFreqsValidSpec)

/-- ITS FALSE NEIGHBOUR: 'it returns false'. Refute it at one input. -/
def fnExactFreqsValidWrong : ChangeSpec := { name := "fnExactFreqsValid", fn := fun _ => fun
  | [d] => { results := [.lit (.bool false)], args := [d] }
  | _ => none }
def FnExactFreqsValidWrongFalsely : Prop := fnExactFreqsValidRow.holds Try.pinned (OpenSpec.ofChange fnExactFreqsValidWrong)

/-- 'laws.FnExactLengthsKraft': WHATEVER THE INPUT: true; the input reads as it did. -/
def fnExactLengthsKraftSpec : ChangeSpec := { name := "fnExactLengthsKraft", fn := fun _ => fun
  | [d] => { results := [.lit (.bool true)], args := [d] }
  | _ => none }
def fnExactLengthsKraftRow : OpenClaim := { program := "ytdaadockbceflaa", sum := "b4e538389e9a98d248aa0794c56ae5f03fb922e0364899636a0ff7442dda7df6", func := "loop.example/compressionlab/laws.FnExactLengthsKraft", spec := "fnExactLengthsKraft", apart := false }
def FnExactLengthsKraftSaid : Prop := fnExactLengthsKraftRow.holds Try.pinned (OpenSpec.ofChange fnExactLengthsKraftSpec)

/-- ITS FALSE NEIGHBOUR: 'it returns false'. Refute it at one input. -/
def fnExactLengthsKraftWrong : ChangeSpec := { name := "fnExactLengthsKraft", fn := fun _ => fun
  | [d] => { results := [.lit (.bool false)], args := [d] }
  | _ => none }
def FnExactLengthsKraftWrongFalsely : Prop := fnExactLengthsKraftRow.holds Try.pinned (OpenSpec.ofChange fnExactLengthsKraftWrong)

/-- 'laws.FnExactLengthsValid': WHATEVER THE INPUT: true; the input reads as it did. -/
def fnExactLengthsValidSpec : ChangeSpec := { name := "fnExactLengthsValid", fn := fun _ => fun
  | [d] => { results := [.lit (.bool true)], args := [d] }
  | _ => none }
def fnExactLengthsValidRow : OpenClaim := { program := "ytdaadockbceflaa", sum := "b4e538389e9a98d248aa0794c56ae5f03fb922e0364899636a0ff7442dda7df6", func := "loop.example/compressionlab/laws.FnExactLengthsValid", spec := "fnExactLengthsValid", apart := false }
def FnExactLengthsValidSaid : Prop := fnExactLengthsValidRow.holds Try.pinned (OpenSpec.ofChange fnExactLengthsValidSpec)

/-- ITS FALSE NEIGHBOUR: 'it returns false'. Refute it at one input. -/
def fnExactLengthsValidWrong : ChangeSpec := { name := "fnExactLengthsValid", fn := fun _ => fun
  | [d] => { results := [.lit (.bool false)], args := [d] }
  | _ => none }
def FnExactLengthsValidWrongFalsely : Prop := fnExactLengthsValidRow.holds Try.pinned (OpenSpec.ofChange fnExactLengthsValidWrong)

/-- 'laws.FnExactMatchAt': WHATEVER THE INPUT: true; the input reads as it did. -/
def fnExactMatchAtSpec : ChangeSpec := { name := "fnExactMatchAt", fn := fun _ => fun
  | [d1, d2] => { results := [.lit (.bool true)], args := [d1, d2] }
  | _ => none }
def fnExactMatchAtRow : OpenClaim := { program := "ytdaadockbceflaa", sum := "b4e538389e9a98d248aa0794c56ae5f03fb922e0364899636a0ff7442dda7df6", func := "loop.example/compressionlab/laws.FnExactMatchAt", spec := "fnExactMatchAt", apart := false }
def FnExactMatchAtSaid : Prop := fnExactMatchAtRow.holds Try.pinned (OpenSpec.ofChange fnExactMatchAtSpec)

/-- ITS FALSE NEIGHBOUR: 'it returns false'. Refute it at one input. -/
def fnExactMatchAtWrong : ChangeSpec := { name := "fnExactMatchAt", fn := fun _ => fun
  | [d1, d2] => { results := [.lit (.bool false)], args := [d1, d2] }
  | _ => none }
def FnExactMatchAtWrongFalsely : Prop := fnExactMatchAtRow.holds Try.pinned (OpenSpec.ofChange fnExactMatchAtWrong)

/-- 'laws.FnExactParseLeast': WHATEVER THE INPUT: true; the input reads as it did. -/
def fnExactParseLeastSpec : ChangeSpec := { name := "fnExactParseLeast", fn := fun _ => fun
  | [d] => { results := [.lit (.bool true)], args := [d] }
  | _ => none }
def fnExactParseLeastRow : OpenClaim := { program := "ytdaadockbceflaa", sum := "b4e538389e9a98d248aa0794c56ae5f03fb922e0364899636a0ff7442dda7df6", func := "loop.example/compressionlab/laws.FnExactParseLeast", spec := "fnExactParseLeast", apart := false }
def FnExactParseLeastSaid : Prop := fnExactParseLeastRow.holds Try.pinned (OpenSpec.ofChange fnExactParseLeastSpec)

/-- ITS FALSE NEIGHBOUR: 'it returns false'. Refute it at one input. -/
def fnExactParseLeastWrong : ChangeSpec := { name := "fnExactParseLeast", fn := fun _ => fun
  | [d] => { results := [.lit (.bool false)], args := [d] }
  | _ => none }
def FnExactParseLeastWrongFalsely : Prop := fnExactParseLeastRow.holds Try.pinned (OpenSpec.ofChange fnExactParseLeastWrong)

/-- 'laws.FnExactTokensLongest': WHATEVER THE INPUT: true; the input reads as it did. -/
def fnExactTokensLongestSpec : ChangeSpec := { name := "fnExactTokensLongest", fn := fun _ => fun
  | [d] => { results := [.lit (.bool true)], args := [d] }
  | _ => none }
def fnExactTokensLongestRow : OpenClaim := { program := "ytdaadockbceflaa", sum := "b4e538389e9a98d248aa0794c56ae5f03fb922e0364899636a0ff7442dda7df6", func := "loop.example/compressionlab/laws.FnExactTokensLongest", spec := "fnExactTokensLongest", apart := false }
def FnExactTokensLongestSaid : Prop := fnExactTokensLongestRow.holds Try.pinned (OpenSpec.ofChange fnExactTokensLongestSpec)

/-- ITS FALSE NEIGHBOUR: 'it returns false'. Refute it at one input. -/
def fnExactTokensLongestWrong : ChangeSpec := { name := "fnExactTokensLongest", fn := fun _ => fun
  | [d] => { results := [.lit (.bool false)], args := [d] }
  | _ => none }
def FnExactTokensLongestWrongFalsely : Prop := fnExactTokensLongestRow.holds Try.pinned (OpenSpec.ofChange fnExactTokensLongestWrong)

/- THE SECOND FORM. 'bulk': how many values and letters a reading holds, each counted each time it is reached (what is shared counts as often as it is met; a slice's spare places count too). A statement '..UptoSaid' is the law's where the arguments, and the package variables that the reading takes, are together of bulk at most 1048576: NARROWER than '..Said'. Prove '..Said' where nothing that the law and all that it calls make is longer than what came in: it says more and counts as full. Else prove '..UptoSaid'. A law counts once. -/
mutual
def uptoBulk {H : Type} : DataW H → Nat
  | .lit (.string bytes) => bytes.length + 1
  | .lit _ => 1
  | .nil => 1
  | .ptr d => uptoBulk d + 1
  | .slice elems spare => uptoBulkAll elems + uptoBulkAll spare + 1
  | .agg parts => uptoBulkAll parts + 1
  | .iface _ d => uptoBulk d + 1
  | .map entries => uptoBulkEntries entries + 1
  | .held _ => 1
def uptoBulkAll {H : Type} : List (DataW H) → Nat
  | [] => 0
  | d :: r => uptoBulk d + uptoBulkAll r
def uptoBulkEntries {H : Type} : List (Lit × DataW H) → Nat
  | [] => 0
  | x :: r => uptoBulkEntry x + uptoBulkEntries r
def uptoBulkEntry {H : Type} : Lit × DataW H → Nat
  | (.string bytes, d) => bytes.length + uptoBulk d + 1
  | (_, d) => uptoBulk d + 1
 end
def uptoSmall : (H : Type) → List (DataW H) → Bool := fun _ ds => decide (uptoBulkAll ds ≤ 1048576)
def OpenSpec.upto (s : _root_.Go.ChangeSpec) : _root_.Go.OpenSpec := { _root_.Go.OpenSpec.ofChange s with cond := some uptoSmall }

/-- 'laws.FnExactFreqsValid', WHERE WHAT IT READS IS OF BULK AT MOST 1048576: true; the input reads as it did. -/
def fnExactFreqsValidUptoRow : OpenClaim := { program := "ytdaadockbceflaa", sum := "b4e538389e9a98d248aa0794c56ae5f03fb922e0364899636a0ff7442dda7df6", func := "loop.example/compressionlab/laws.FnExactFreqsValid", spec := "fnExactFreqsValid", apart := false, narrowed := true }
def FnExactFreqsValidUptoSaid : Prop := fnExactFreqsValidUptoRow.holds Try.pinned (OpenSpec.upto fnExactFreqsValidSpec)

/-- 'laws.FnExactLengthsKraft', WHERE WHAT IT READS IS OF BULK AT MOST 1048576: true; the input reads as it did. -/
def fnExactLengthsKraftUptoRow : OpenClaim := { program := "ytdaadockbceflaa", sum := "b4e538389e9a98d248aa0794c56ae5f03fb922e0364899636a0ff7442dda7df6", func := "loop.example/compressionlab/laws.FnExactLengthsKraft", spec := "fnExactLengthsKraft", apart := false, narrowed := true }
def FnExactLengthsKraftUptoSaid : Prop := fnExactLengthsKraftUptoRow.holds Try.pinned (OpenSpec.upto fnExactLengthsKraftSpec)

/-- 'laws.FnExactLengthsValid', WHERE WHAT IT READS IS OF BULK AT MOST 1048576: true; the input reads as it did. -/
def fnExactLengthsValidUptoRow : OpenClaim := { program := "ytdaadockbceflaa", sum := "b4e538389e9a98d248aa0794c56ae5f03fb922e0364899636a0ff7442dda7df6", func := "loop.example/compressionlab/laws.FnExactLengthsValid", spec := "fnExactLengthsValid", apart := false, narrowed := true }
def FnExactLengthsValidUptoSaid : Prop := fnExactLengthsValidUptoRow.holds Try.pinned (OpenSpec.upto fnExactLengthsValidSpec)

/-- 'laws.FnExactMatchAt', WHERE WHAT IT READS IS OF BULK AT MOST 1048576: true; the input reads as it did. -/
def fnExactMatchAtUptoRow : OpenClaim := { program := "ytdaadockbceflaa", sum := "b4e538389e9a98d248aa0794c56ae5f03fb922e0364899636a0ff7442dda7df6", func := "loop.example/compressionlab/laws.FnExactMatchAt", spec := "fnExactMatchAt", apart := false, narrowed := true }
def FnExactMatchAtUptoSaid : Prop := fnExactMatchAtUptoRow.holds Try.pinned (OpenSpec.upto fnExactMatchAtSpec)

/-- 'laws.FnExactParseLeast', WHERE WHAT IT READS IS OF BULK AT MOST 1048576: true; the input reads as it did. -/
def fnExactParseLeastUptoRow : OpenClaim := { program := "ytdaadockbceflaa", sum := "b4e538389e9a98d248aa0794c56ae5f03fb922e0364899636a0ff7442dda7df6", func := "loop.example/compressionlab/laws.FnExactParseLeast", spec := "fnExactParseLeast", apart := false, narrowed := true }
def FnExactParseLeastUptoSaid : Prop := fnExactParseLeastUptoRow.holds Try.pinned (OpenSpec.upto fnExactParseLeastSpec)

/-- 'laws.FnExactTokensLongest', WHERE WHAT IT READS IS OF BULK AT MOST 1048576: true; the input reads as it did. -/
def fnExactTokensLongestUptoRow : OpenClaim := { program := "ytdaadockbceflaa", sum := "b4e538389e9a98d248aa0794c56ae5f03fb922e0364899636a0ff7442dda7df6", func := "loop.example/compressionlab/laws.FnExactTokensLongest", spec := "fnExactTokensLongest", apart := false, narrowed := true }
def FnExactTokensLongestUptoSaid : Prop := fnExactTokensLongestUptoRow.holds Try.pinned (OpenSpec.upto fnExactTokensLongestSpec)

end Rows
end Go.Proofs.Ytdaadockbceflaa
