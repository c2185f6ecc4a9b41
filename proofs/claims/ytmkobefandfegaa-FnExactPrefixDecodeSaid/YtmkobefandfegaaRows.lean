/-
  No cell of these rows narrows 'for every input' (looked for: loops, veiled, ifaces, maps, wideKeys, modest, calm, conditions, laid).
  DERIVED. THE GIVEN ROWS OF THIS SEAT. 12 by the template 'for every input the law returns true; each argument reads behind the call as it read before'; 0 by the template 'total and deterministic' (their statements: YtmkobefandfegaaTotals.lean).
  GIVEN WITH THE SEED: the statements are not yours to turn. If you find one false, say at which input.
  Laid BY PROGRAM, IN A SANDBOX (cutbox-rows.mjs): the forced cells as the released guide's own fill.sh prints them over the translation d5435aa80358d613… (all of the seat's roots in one cut). By AI agents, Wed Nov 11 2026. No macro, syntax, notation, axiom, sorry.
-/
import Derived.Test.YtmkobefandfegaaChecked
import GoSem.Claim
import GoSem.ClaimJoined
import GoSem.ClaimMapViews
import Derived.JoinedTies
import Derived.KernelRfl
namespace Go.Proofs.Ytmkobefandfegaa
/- THE CELL 'sum', in the pinned program and in every row, IS THE sha256 OF THE DUMP (.gsa) THAT YtmkobefandfegaaProg.lean LOADS. Nothing in Lean hashes anything: it is a label: what it is worth is what the hold of that sum in a sandbox is worth. -/
noncomputable def Try.pinned : Pinned := { name := "ytmkobefandfegaa", sum := "d5435aa80358d613fdc2c7d08ac3b1343e1bf673773f654b3bb96978f425382a", checked := Try.checked }
namespace Rows
def none {H : Type} : Left H := { results := [], args := [] }

/-- 'laws.FnExactTokensLongest': WHATEVER THE INPUT: true; the input reads as it did. -/
def fnExactTokensLongestSpec : ChangeSpec := { name := "fnExactTokensLongest", fn := fun _ => fun
  | [d] => { results := [.lit (.bool true)], args := [d] }
  | _ => none }
def fnExactTokensLongestRow : OpenClaim := { program := "ytmkobefandfegaa", sum := "d5435aa80358d613fdc2c7d08ac3b1343e1bf673773f654b3bb96978f425382a", func := "loop.example/compressionlab/laws.FnExactTokensLongest", spec := "fnExactTokensLongest", apart := false }
def FnExactTokensLongestSaid : Prop := fnExactTokensLongestRow.holds Try.pinned (OpenSpec.ofChange fnExactTokensLongestSpec)

/-- ITS FALSE NEIGHBOUR: 'it returns false'. Refute it at one input. -/
def fnExactTokensLongestWrong : ChangeSpec := { name := "fnExactTokensLongest", fn := fun _ => fun
  | [d] => { results := [.lit (.bool false)], args := [d] }
  | _ => none }
def FnExactTokensLongestWrongFalsely : Prop := fnExactTokensLongestRow.holds Try.pinned (OpenSpec.ofChange fnExactTokensLongestWrong)

/-- 'laws.FnExactTokensCost': WHATEVER THE INPUT: true; the input reads as it did. -/
def fnExactTokensCostSpec : ChangeSpec := { name := "fnExactTokensCost", fn := fun _ => fun
  | [d] => { results := [.lit (.bool true)], args := [d] }
  | _ => none }
def fnExactTokensCostRow : OpenClaim := { program := "ytmkobefandfegaa", sum := "d5435aa80358d613fdc2c7d08ac3b1343e1bf673773f654b3bb96978f425382a", func := "loop.example/compressionlab/laws.FnExactTokensCost", spec := "fnExactTokensCost", apart := false }
def FnExactTokensCostSaid : Prop := fnExactTokensCostRow.holds Try.pinned (OpenSpec.ofChange fnExactTokensCostSpec)

/-- ITS FALSE NEIGHBOUR: 'it returns false'. Refute it at one input. -/
def fnExactTokensCostWrong : ChangeSpec := { name := "fnExactTokensCost", fn := fun _ => fun
  | [d] => { results := [.lit (.bool false)], args := [d] }
  | _ => none }
def FnExactTokensCostWrongFalsely : Prop := fnExactTokensCostRow.holds Try.pinned (OpenSpec.ofChange fnExactTokensCostWrong)

/-- 'laws.FnExactTokensExpand': WHATEVER THE INPUT: true; the input reads as it did. -/
def fnExactTokensExpandSpec : ChangeSpec := { name := "fnExactTokensExpand", fn := fun _ => fun
  | [d] => { results := [.lit (.bool true)], args := [d] }
  | _ => none }
def fnExactTokensExpandRow : OpenClaim := { program := "ytmkobefandfegaa", sum := "d5435aa80358d613fdc2c7d08ac3b1343e1bf673773f654b3bb96978f425382a", func := "loop.example/compressionlab/laws.FnExactTokensExpand", spec := "fnExactTokensExpand", apart := false }
def FnExactTokensExpandSaid : Prop := fnExactTokensExpandRow.holds Try.pinned (OpenSpec.ofChange fnExactTokensExpandSpec)

/-- ITS FALSE NEIGHBOUR: 'it returns false'. Refute it at one input. -/
def fnExactTokensExpandWrong : ChangeSpec := { name := "fnExactTokensExpand", fn := fun _ => fun
  | [d] => { results := [.lit (.bool false)], args := [d] }
  | _ => none }
def FnExactTokensExpandWrongFalsely : Prop := fnExactTokensExpandRow.holds Try.pinned (OpenSpec.ofChange fnExactTokensExpandWrong)

/-- 'laws.FnExactCodesOf': WHATEVER THE INPUT: true; the input reads as it did. -/
def fnExactCodesOfSpec : ChangeSpec := { name := "fnExactCodesOf", fn := fun _ => fun
  | [d] => { results := [.lit (.bool true)], args := [d] }
  | _ => none }
def fnExactCodesOfRow : OpenClaim := { program := "ytmkobefandfegaa", sum := "d5435aa80358d613fdc2c7d08ac3b1343e1bf673773f654b3bb96978f425382a", func := "loop.example/compressionlab/laws.FnExactCodesOf", spec := "fnExactCodesOf", apart := false }
def FnExactCodesOfSaid : Prop := fnExactCodesOfRow.holds Try.pinned (OpenSpec.ofChange fnExactCodesOfSpec)

/-- ITS FALSE NEIGHBOUR: 'it returns false'. Refute it at one input. -/
def fnExactCodesOfWrong : ChangeSpec := { name := "fnExactCodesOf", fn := fun _ => fun
  | [d] => { results := [.lit (.bool false)], args := [d] }
  | _ => none }
def FnExactCodesOfWrongFalsely : Prop := fnExactCodesOfRow.holds Try.pinned (OpenSpec.ofChange fnExactCodesOfWrong)

/-- 'laws.FnExactLengthsOf': WHATEVER THE INPUT: true; the input reads as it did. -/
def fnExactLengthsOfSpec : ChangeSpec := { name := "fnExactLengthsOf", fn := fun _ => fun
  | [d] => { results := [.lit (.bool true)], args := [d] }
  | _ => none }
def fnExactLengthsOfRow : OpenClaim := { program := "ytmkobefandfegaa", sum := "d5435aa80358d613fdc2c7d08ac3b1343e1bf673773f654b3bb96978f425382a", func := "loop.example/compressionlab/laws.FnExactLengthsOf", spec := "fnExactLengthsOf", unfollowed := true, recurses := true, apart := false }
def FnExactLengthsOfSaid : Prop := fnExactLengthsOfRow.holds Try.pinned (OpenSpec.ofChange fnExactLengthsOfSpec)

/-- ITS FALSE NEIGHBOUR: 'it returns false'. Refute it at one input. -/
def fnExactLengthsOfWrong : ChangeSpec := { name := "fnExactLengthsOf", fn := fun _ => fun
  | [d] => { results := [.lit (.bool false)], args := [d] }
  | _ => none }
def FnExactLengthsOfWrongFalsely : Prop := fnExactLengthsOfRow.holds Try.pinned (OpenSpec.ofChange fnExactLengthsOfWrong)

/-- 'laws.FnExactTokensGreedy': WHATEVER THE INPUT: true; the input reads as it did. -/
def fnExactTokensGreedySpec : ChangeSpec := { name := "fnExactTokensGreedy", fn := fun _ => fun
  | [d] => { results := [.lit (.bool true)], args := [d] }
  | _ => none }
def fnExactTokensGreedyRow : OpenClaim := { program := "ytmkobefandfegaa", sum := "d5435aa80358d613fdc2c7d08ac3b1343e1bf673773f654b3bb96978f425382a", func := "loop.example/compressionlab/laws.FnExactTokensGreedy", spec := "fnExactTokensGreedy", apart := false }
def FnExactTokensGreedySaid : Prop := fnExactTokensGreedyRow.holds Try.pinned (OpenSpec.ofChange fnExactTokensGreedySpec)

/-- ITS FALSE NEIGHBOUR: 'it returns false'. Refute it at one input. -/
def fnExactTokensGreedyWrong : ChangeSpec := { name := "fnExactTokensGreedy", fn := fun _ => fun
  | [d] => { results := [.lit (.bool false)], args := [d] }
  | _ => none }
def FnExactTokensGreedyWrongFalsely : Prop := fnExactTokensGreedyRow.holds Try.pinned (OpenSpec.ofChange fnExactTokensGreedyWrong)

/-- 'laws.FnExactParseBest': WHATEVER THE INPUT: true; the input reads as it did. -/
def fnExactParseBestSpec : ChangeSpec := { name := "fnExactParseBest", fn := fun _ => fun
  | [d] => { results := [.lit (.bool true)], args := [d] }
  | _ => none }
def fnExactParseBestRow : OpenClaim := { program := "ytmkobefandfegaa", sum := "d5435aa80358d613fdc2c7d08ac3b1343e1bf673773f654b3bb96978f425382a", func := "loop.example/compressionlab/laws.FnExactParseBest", spec := "fnExactParseBest", apart := false }
def FnExactParseBestSaid : Prop := fnExactParseBestRow.holds Try.pinned (OpenSpec.ofChange fnExactParseBestSpec)

/-- ITS FALSE NEIGHBOUR: 'it returns false'. Refute it at one input. -/
def fnExactParseBestWrong : ChangeSpec := { name := "fnExactParseBest", fn := fun _ => fun
  | [d] => { results := [.lit (.bool false)], args := [d] }
  | _ => none }
def FnExactParseBestWrongFalsely : Prop := fnExactParseBestRow.holds Try.pinned (OpenSpec.ofChange fnExactParseBestWrong)

/-- 'laws.FnExactStatesEncode': WHATEVER THE INPUT: true; the input reads as it did. -/
def fnExactStatesEncodeSpec : ChangeSpec := { name := "fnExactStatesEncode", fn := fun _ => fun
  | [d1, d2] => { results := [.lit (.bool true)], args := [d1, d2] }
  | _ => none }
def fnExactStatesEncodeRow : OpenClaim := { program := "ytmkobefandfegaa", sum := "d5435aa80358d613fdc2c7d08ac3b1343e1bf673773f654b3bb96978f425382a", func := "loop.example/compressionlab/laws.FnExactStatesEncode", spec := "fnExactStatesEncode", apart := false }
def FnExactStatesEncodeSaid : Prop := fnExactStatesEncodeRow.holds Try.pinned (OpenSpec.ofChange fnExactStatesEncodeSpec)

/-- ITS FALSE NEIGHBOUR: 'it returns false'. Refute it at one input. -/
def fnExactStatesEncodeWrong : ChangeSpec := { name := "fnExactStatesEncode", fn := fun _ => fun
  | [d1, d2] => { results := [.lit (.bool false)], args := [d1, d2] }
  | _ => none }
def FnExactStatesEncodeWrongFalsely : Prop := fnExactStatesEncodeRow.holds Try.pinned (OpenSpec.ofChange fnExactStatesEncodeWrong)

/-- 'laws.FnExactStatesDecode': WHATEVER THE INPUT: true; the input reads as it did. -/
def fnExactStatesDecodeSpec : ChangeSpec := { name := "fnExactStatesDecode", fn := fun _ => fun
  | [d1, d2, d3, d4] => { results := [.lit (.bool true)], args := [d1, d2, d3, d4] }
  | _ => none }
def fnExactStatesDecodeRow : OpenClaim := { program := "ytmkobefandfegaa", sum := "d5435aa80358d613fdc2c7d08ac3b1343e1bf673773f654b3bb96978f425382a", func := "loop.example/compressionlab/laws.FnExactStatesDecode", spec := "fnExactStatesDecode", apart := false }
def FnExactStatesDecodeSaid : Prop := fnExactStatesDecodeRow.holds Try.pinned (OpenSpec.ofChange fnExactStatesDecodeSpec)

/-- ITS FALSE NEIGHBOUR: 'it returns false'. Refute it at one input. -/
def fnExactStatesDecodeWrong : ChangeSpec := { name := "fnExactStatesDecode", fn := fun _ => fun
  | [d1, d2, d3, d4] => { results := [.lit (.bool false)], args := [d1, d2, d3, d4] }
  | _ => none }
def FnExactStatesDecodeWrongFalsely : Prop := fnExactStatesDecodeRow.holds Try.pinned (OpenSpec.ofChange fnExactStatesDecodeWrong)

/-- 'laws.FnExactPrefixEncode': WHATEVER THE INPUT: true; the input reads as it did. -/
def fnExactPrefixEncodeSpec : ChangeSpec := { name := "fnExactPrefixEncode", fn := fun _ => fun
  | [d1, d2] => { results := [.lit (.bool true)], args := [d1, d2] }
  | _ => none }
def fnExactPrefixEncodeRow : OpenClaim := { program := "ytmkobefandfegaa", sum := "d5435aa80358d613fdc2c7d08ac3b1343e1bf673773f654b3bb96978f425382a", func := "loop.example/compressionlab/laws.FnExactPrefixEncode", spec := "fnExactPrefixEncode", apart := false }
def FnExactPrefixEncodeSaid : Prop := fnExactPrefixEncodeRow.holds Try.pinned (OpenSpec.ofChange fnExactPrefixEncodeSpec)

/-- ITS FALSE NEIGHBOUR: 'it returns false'. Refute it at one input. -/
def fnExactPrefixEncodeWrong : ChangeSpec := { name := "fnExactPrefixEncode", fn := fun _ => fun
  | [d1, d2] => { results := [.lit (.bool false)], args := [d1, d2] }
  | _ => none }
def FnExactPrefixEncodeWrongFalsely : Prop := fnExactPrefixEncodeRow.holds Try.pinned (OpenSpec.ofChange fnExactPrefixEncodeWrong)

/-- 'laws.FnExactPrefixDecode': WHATEVER THE INPUT: true; the input reads as it did. -/
def fnExactPrefixDecodeSpec : ChangeSpec := { name := "fnExactPrefixDecode", fn := fun _ => fun
  | [d1, d2, d3] => { results := [.lit (.bool true)], args := [d1, d2, d3] }
  | _ => none }
def fnExactPrefixDecodeRow : OpenClaim := { program := "ytmkobefandfegaa", sum := "d5435aa80358d613fdc2c7d08ac3b1343e1bf673773f654b3bb96978f425382a", func := "loop.example/compressionlab/laws.FnExactPrefixDecode", spec := "fnExactPrefixDecode", apart := false }
def FnExactPrefixDecodeSaid : Prop := fnExactPrefixDecodeRow.holds Try.pinned (OpenSpec.ofChange fnExactPrefixDecodeSpec)

/-- ITS FALSE NEIGHBOUR: 'it returns false'. Refute it at one input. -/
def fnExactPrefixDecodeWrong : ChangeSpec := { name := "fnExactPrefixDecode", fn := fun _ => fun
  | [d1, d2, d3] => { results := [.lit (.bool false)], args := [d1, d2, d3] }
  | _ => none }
def FnExactPrefixDecodeWrongFalsely : Prop := fnExactPrefixDecodeRow.holds Try.pinned (OpenSpec.ofChange fnExactPrefixDecodeWrong)

/-- 'laws.FnExactPrefixBits': WHATEVER THE INPUT: true; the input reads as it did. -/
def fnExactPrefixBitsSpec : ChangeSpec := { name := "fnExactPrefixBits", fn := fun _ => fun
  | [d] => { results := [.lit (.bool true)], args := [d] }
  | _ => none }
def fnExactPrefixBitsRow : OpenClaim := { program := "ytmkobefandfegaa", sum := "d5435aa80358d613fdc2c7d08ac3b1343e1bf673773f654b3bb96978f425382a", func := "loop.example/compressionlab/laws.FnExactPrefixBits", spec := "fnExactPrefixBits", unfollowed := true, recurses := true, apart := false }
def FnExactPrefixBitsSaid : Prop := fnExactPrefixBitsRow.holds Try.pinned (OpenSpec.ofChange fnExactPrefixBitsSpec)

/-- ITS FALSE NEIGHBOUR: 'it returns false'. Refute it at one input. -/
def fnExactPrefixBitsWrong : ChangeSpec := { name := "fnExactPrefixBits", fn := fun _ => fun
  | [d] => { results := [.lit (.bool false)], args := [d] }
  | _ => none }
def FnExactPrefixBitsWrongFalsely : Prop := fnExactPrefixBitsRow.holds Try.pinned (OpenSpec.ofChange fnExactPrefixBitsWrong)

/- THE SECOND FORM. 'bulk': how many values and letters a reading holds, each counted each time it is reached (what is shared counts as often as it is met; a slice's spare places count too). A statement '..UptoSaid' is the law's where the arguments, and the package variables that the reading takes, are together of bulk at most 1048576: NARROWER than '..Said'. Prove '..Said' where nothing that the law and all that it calls make is longer than what came in: it says more and counts as full. Else prove '..UptoSaid'. A law counts once. -/
mutual
def uptoBulk {H : Type} : DataW H → Nat
  | .lit (.string bytes) => bytes.length + 1
  | .lit _ => 1
  | .nil => 1
  | .ptr d => uptoBulk d + 1
  | .slice elems spare => uptoBulkAll elems + uptoBulkAll spare + 1
  | .agg parts => uptoBulkAll parts + 1
  | .iface _ d => uptoBulk d + 1
  | .map entries => uptoBulkEntries entries + 1
  | .held _ => 1
def uptoBulkAll {H : Type} : List (DataW H) → Nat
  | [] => 0
  | d :: r => uptoBulk d + uptoBulkAll r
def uptoBulkEntries {H : Type} : List (Lit × DataW H) → Nat
  | [] => 0
  | x :: r => uptoBulkEntry x + uptoBulkEntries r
def uptoBulkEntry {H : Type} : Lit × DataW H → Nat
  | (.string bytes, d) => bytes.length + uptoBulk d + 1
  | (_, d) => uptoBulk d + 1
 end
def uptoSmall : (H : Type) → List (DataW H) → Bool := fun _ ds => decide (uptoBulkAll ds ≤ 1048576)
def OpenSpec.upto (s : _root_.Go.ChangeSpec) : _root_.Go.OpenSpec := { _root_.Go.OpenSpec.ofChange s with cond := some uptoSmall }

/-- 'laws.FnExactTokensLongest', WHERE WHAT IT READS IS OF BULK AT MOST 1048576: true; the input reads as it did. -/
def fnExactTokensLongestUptoRow : OpenClaim := { program := "ytmkobefandfegaa", sum := "d5435aa80358d613fdc2c7d08ac3b1343e1bf673773f654b3bb96978f425382a", func := "loop.example/compressionlab/laws.FnExactTokensLongest", spec := "fnExactTokensLongest", apart := false, narrowed := true }
def FnExactTokensLongestUptoSaid : Prop := fnExactTokensLongestUptoRow.holds Try.pinned (OpenSpec.upto fnExactTokensLongestSpec)

/-- 'laws.FnExactTokensCost', WHERE WHAT IT READS IS OF BULK AT MOST 1048576: true; the input reads as it did. -/
def fnExactTokensCostUptoRow : OpenClaim := { program := "ytmkobefandfegaa", sum := "d5435aa80358d613fdc2c7d08ac3b1343e1bf673773f654b3bb96978f425382a", func := "loop.example/compressionlab/laws.FnExactTokensCost", spec := "fnExactTokensCost", apart := false, narrowed := true }
def FnExactTokensCostUptoSaid : Prop := fnExactTokensCostUptoRow.holds Try.pinned (OpenSpec.upto fnExactTokensCostSpec)

/-- 'laws.FnExactTokensExpand', WHERE WHAT IT READS IS OF BULK AT MOST 1048576: true; the input reads as it did. -/
def fnExactTokensExpandUptoRow : OpenClaim := { program := "ytmkobefandfegaa", sum := "d5435aa80358d613fdc2c7d08ac3b1343e1bf673773f654b3bb96978f425382a", func := "loop.example/compressionlab/laws.FnExactTokensExpand", spec := "fnExactTokensExpand", apart := false, narrowed := true }
def FnExactTokensExpandUptoSaid : Prop := fnExactTokensExpandUptoRow.holds Try.pinned (OpenSpec.upto fnExactTokensExpandSpec)

/-- 'laws.FnExactCodesOf', WHERE WHAT IT READS IS OF BULK AT MOST 1048576: true; the input reads as it did. -/
def fnExactCodesOfUptoRow : OpenClaim := { program := "ytmkobefandfegaa", sum := "d5435aa80358d613fdc2c7d08ac3b1343e1bf673773f654b3bb96978f425382a", func := "loop.example/compressionlab/laws.FnExactCodesOf", spec := "fnExactCodesOf", apart := false, narrowed := true }
def FnExactCodesOfUptoSaid : Prop := fnExactCodesOfUptoRow.holds Try.pinned (OpenSpec.upto fnExactCodesOfSpec)

/-- 'laws.FnExactLengthsOf', WHERE WHAT IT READS IS OF BULK AT MOST 1048576: true; the input reads as it did. -/
def fnExactLengthsOfUptoRow : OpenClaim := { program := "ytmkobefandfegaa", sum := "d5435aa80358d613fdc2c7d08ac3b1343e1bf673773f654b3bb96978f425382a", func := "loop.example/compressionlab/laws.FnExactLengthsOf", spec := "fnExactLengthsOf", unfollowed := true, recurses := true, apart := false, narrowed := true }
def FnExactLengthsOfUptoSaid : Prop := fnExactLengthsOfUptoRow.holds Try.pinned (OpenSpec.upto fnExactLengthsOfSpec)

/-- 'laws.FnExactTokensGreedy', WHERE WHAT IT READS IS OF BULK AT MOST 1048576: true; the input reads as it did. -/
def fnExactTokensGreedyUptoRow : OpenClaim := { program := "ytmkobefandfegaa", sum := "d5435aa80358d613fdc2c7d08ac3b1343e1bf673773f654b3bb96978f425382a", func := "loop.example/compressionlab/laws.FnExactTokensGreedy", spec := "fnExactTokensGreedy", apart := false, narrowed := true }
def FnExactTokensGreedyUptoSaid : Prop := fnExactTokensGreedyUptoRow.holds Try.pinned (OpenSpec.upto fnExactTokensGreedySpec)

/-- 'laws.FnExactParseBest', WHERE WHAT IT READS IS OF BULK AT MOST 1048576: true; the input reads as it did. -/
def fnExactParseBestUptoRow : OpenClaim := { program := "ytmkobefandfegaa", sum := "d5435aa80358d613fdc2c7d08ac3b1343e1bf673773f654b3bb96978f425382a", func := "loop.example/compressionlab/laws.FnExactParseBest", spec := "fnExactParseBest", apart := false, narrowed := true }
def FnExactParseBestUptoSaid : Prop := fnExactParseBestUptoRow.holds Try.pinned (OpenSpec.upto fnExactParseBestSpec)

/-- 'laws.FnExactStatesEncode', WHERE WHAT IT READS IS OF BULK AT MOST 1048576: true; the input reads as it did. -/
def fnExactStatesEncodeUptoRow : OpenClaim := { program := "ytmkobefandfegaa", sum := "d5435aa80358d613fdc2c7d08ac3b1343e1bf673773f654b3bb96978f425382a", func := "loop.example/compressionlab/laws.FnExactStatesEncode", spec := "fnExactStatesEncode", apart := false, narrowed := true }
def FnExactStatesEncodeUptoSaid : Prop := fnExactStatesEncodeUptoRow.holds Try.pinned (OpenSpec.upto fnExactStatesEncodeSpec)

/-- 'laws.FnExactStatesDecode', WHERE WHAT IT READS IS OF BULK AT MOST 1048576: true; the input reads as it did. -/
def fnExactStatesDecodeUptoRow : OpenClaim := { program := "ytmkobefandfegaa", sum := "d5435aa80358d613fdc2c7d08ac3b1343e1bf673773f654b3bb96978f425382a", func := "loop.example/compressionlab/laws.FnExactStatesDecode", spec := "fnExactStatesDecode", apart := false, narrowed := true }
def FnExactStatesDecodeUptoSaid : Prop := fnExactStatesDecodeUptoRow.holds Try.pinned (OpenSpec.upto fnExactStatesDecodeSpec)

/-- 'laws.FnExactPrefixEncode', WHERE WHAT IT READS IS OF BULK AT MOST 1048576: true; the input reads as it did. -/
def fnExactPrefixEncodeUptoRow : OpenClaim := { program := "ytmkobefandfegaa", sum := "d5435aa80358d613fdc2c7d08ac3b1343e1bf673773f654b3bb96978f425382a", func := "loop.example/compressionlab/laws.FnExactPrefixEncode", spec := "fnExactPrefixEncode", apart := false, narrowed := true }
def FnExactPrefixEncodeUptoSaid : Prop := fnExactPrefixEncodeUptoRow.holds Try.pinned (OpenSpec.upto fnExactPrefixEncodeSpec)

/-- 'laws.FnExactPrefixDecode', WHERE WHAT IT READS IS OF BULK AT MOST 1048576: true; the input reads as it did. -/
def fnExactPrefixDecodeUptoRow : OpenClaim := { program := "ytmkobefandfegaa", sum := "d5435aa80358d613fdc2c7d08ac3b1343e1bf673773f654b3bb96978f425382a", func := "loop.example/compressionlab/laws.FnExactPrefixDecode", spec := "fnExactPrefixDecode", apart := false, narrowed := true }
def FnExactPrefixDecodeUptoSaid : Prop := fnExactPrefixDecodeUptoRow.holds Try.pinned (OpenSpec.upto fnExactPrefixDecodeSpec)

/-- 'laws.FnExactPrefixBits', WHERE WHAT IT READS IS OF BULK AT MOST 1048576: true; the input reads as it did. -/
def fnExactPrefixBitsUptoRow : OpenClaim := { program := "ytmkobefandfegaa", sum := "d5435aa80358d613fdc2c7d08ac3b1343e1bf673773f654b3bb96978f425382a", func := "loop.example/compressionlab/laws.FnExactPrefixBits", spec := "fnExactPrefixBits", unfollowed := true, recurses := true, apart := false, narrowed := true }
def FnExactPrefixBitsUptoSaid : Prop := fnExactPrefixBitsUptoRow.holds Try.pinned (OpenSpec.upto fnExactPrefixBitsSpec)

end Rows
end Go.Proofs.Ytmkobefandfegaa
