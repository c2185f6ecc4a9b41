/-
  No cell of these rows narrows 'for every input' (looked for: loops, veiled, ifaces, maps, wideKeys, modest, calm, conditions, laid).
  DERIVED. THE GIVEN ROWS OF THIS SEAT. 8 by the template 'for every input the law returns true; each argument reads behind the call as it read before'; 0 by the template 'total and deterministic' (their statements: YtnljhkleimjphaaTotals.lean).
  GIVEN WITH THE SEED: the statements are not yours to turn. If you find one false, say at which input.
  Laid BY PROGRAM, IN A SANDBOX (cutbox-rows.mjs): the forced cells as the released guide's own fill.sh prints them over the translation e03f4e6fee56164f… (all of the seat's roots in one cut). By AI agents, Wed Nov 11 2026. No macro, syntax, notation, axiom, sorry.
-/
import Derived.Test.YtnljhkleimjphaaChecked
import GoSem.Claim
import GoSem.ClaimJoined
import GoSem.ClaimMapViews
import Derived.JoinedTies
import Derived.KernelRfl
namespace Go.Proofs.Ytnljhkleimjphaa
/- THE CELL 'sum', in the pinned program and in every row, IS THE sha256 OF THE DUMP (.gsa) THAT YtnljhkleimjphaaProg.lean LOADS. Nothing in Lean hashes anything: it is a label: what it is worth is what the hold of that sum in a sandbox is worth. -/
noncomputable def Try.pinned : Pinned := { name := "ytnljhkleimjphaa", sum := "e03f4e6fee56164f83035f8d413e4136ecf0e645b73f43214b2964b3a6be707a", checked := Try.checked }
namespace Rows
def none {H : Type} : Left H := { results := [], args := [] }

/-- 'laws.FnExactTokensLongest': WHATEVER THE INPUT: true; the input reads as it did. -/
def fnExactTokensLongestSpec : ChangeSpec := { name := "fnExactTokensLongest", fn := fun _ => fun
  | [d] => { results := [.lit (.bool true)], args := [d] }
  | _ => none }
def fnExactTokensLongestRow : OpenClaim := { program := "ytnljhkleimjphaa", sum := "e03f4e6fee56164f83035f8d413e4136ecf0e645b73f43214b2964b3a6be707a", func := "loop.example/compressionlab/laws.FnExactTokensLongest", spec := "fnExactTokensLongest", apart := false }
def FnExactTokensLongestSaid : Prop := fnExactTokensLongestRow.holds Try.pinned (OpenSpec.ofChange fnExactTokensLongestSpec)

/-- ITS FALSE NEIGHBOUR: 'it returns false'. Refute it at one input. -/
def fnExactTokensLongestWrong : ChangeSpec := { name := "fnExactTokensLongest", fn := fun _ => fun
  | [d] => { results := [.lit (.bool false)], args := [d] }
  | _ => none }
def FnExactTokensLongestWrongFalsely : Prop := fnExactTokensLongestRow.holds Try.pinned (OpenSpec.ofChange fnExactTokensLongestWrong)

/-- 'laws.FnExactLengthsCost': WHATEVER THE INPUT: true; the input reads as it did. -/
def fnExactLengthsCostSpec : ChangeSpec := { name := "fnExactLengthsCost", fn := fun _ => fun
  | [d1, d2] => { results := [.lit (.bool true)], args := [d1, d2] }
  | _ => none }
def fnExactLengthsCostRow : OpenClaim := { program := "ytnljhkleimjphaa", sum := "e03f4e6fee56164f83035f8d413e4136ecf0e645b73f43214b2964b3a6be707a", func := "loop.example/compressionlab/laws.FnExactLengthsCost", spec := "fnExactLengthsCost", apart := false }
def FnExactLengthsCostSaid : Prop := fnExactLengthsCostRow.holds Try.pinned (OpenSpec.ofChange fnExactLengthsCostSpec)

/-- ITS FALSE NEIGHBOUR: 'it returns false'. Refute it at one input. -/
def fnExactLengthsCostWrong : ChangeSpec := { name := "fnExactLengthsCost", fn := fun _ => fun
  | [d1, d2] => { results := [.lit (.bool false)], args := [d1, d2] }
  | _ => none }
def FnExactLengthsCostWrongFalsely : Prop := fnExactLengthsCostRow.holds Try.pinned (OpenSpec.ofChange fnExactLengthsCostWrong)

/-- 'laws.FnExactTokensCost': WHATEVER THE INPUT: true; the input reads as it did. -/
def fnExactTokensCostSpec : ChangeSpec := { name := "fnExactTokensCost", fn := fun _ => fun
  | [d] => { results := [.lit (.bool true)], args := [d] }
  | _ => none }
def fnExactTokensCostRow : OpenClaim := { program := "ytnljhkleimjphaa", sum := "e03f4e6fee56164f83035f8d413e4136ecf0e645b73f43214b2964b3a6be707a", func := "loop.example/compressionlab/laws.FnExactTokensCost", spec := "fnExactTokensCost", apart := false }
def FnExactTokensCostSaid : Prop := fnExactTokensCostRow.holds Try.pinned (OpenSpec.ofChange fnExactTokensCostSpec)

/-- ITS FALSE NEIGHBOUR: 'it returns false'. Refute it at one input. -/
def fnExactTokensCostWrong : ChangeSpec := { name := "fnExactTokensCost", fn := fun _ => fun
  | [d] => { results := [.lit (.bool false)], args := [d] }
  | _ => none }
def FnExactTokensCostWrongFalsely : Prop := fnExactTokensCostRow.holds Try.pinned (OpenSpec.ofChange fnExactTokensCostWrong)

/-- 'laws.FnExactTokensExpand': WHATEVER THE INPUT: true; the input reads as it did. -/
def fnExactTokensExpandSpec : ChangeSpec := { name := "fnExactTokensExpand", fn := fun _ => fun
  | [d] => { results := [.lit (.bool true)], args := [d] }
  | _ => none }
def fnExactTokensExpandRow : OpenClaim := { program := "ytnljhkleimjphaa", sum := "e03f4e6fee56164f83035f8d413e4136ecf0e645b73f43214b2964b3a6be707a", func := "loop.example/compressionlab/laws.FnExactTokensExpand", spec := "fnExactTokensExpand", apart := false }
def FnExactTokensExpandSaid : Prop := fnExactTokensExpandRow.holds Try.pinned (OpenSpec.ofChange fnExactTokensExpandSpec)

/-- ITS FALSE NEIGHBOUR: 'it returns false'. Refute it at one input. -/
def fnExactTokensExpandWrong : ChangeSpec := { name := "fnExactTokensExpand", fn := fun _ => fun
  | [d] => { results := [.lit (.bool false)], args := [d] }
  | _ => none }
def FnExactTokensExpandWrongFalsely : Prop := fnExactTokensExpandRow.holds Try.pinned (OpenSpec.ofChange fnExactTokensExpandWrong)

/-- 'laws.FnExactCodesOf': WHATEVER THE INPUT: true; the input reads as it did. -/
def fnExactCodesOfSpec : ChangeSpec := { name := "fnExactCodesOf", fn := fun _ => fun
  | [d] => { results := [.lit (.bool true)], args := [d] }
  | _ => none }
def fnExactCodesOfRow : OpenClaim := { program := "ytnljhkleimjphaa", sum := "e03f4e6fee56164f83035f8d413e4136ecf0e645b73f43214b2964b3a6be707a", func := "loop.example/compressionlab/laws.FnExactCodesOf", spec := "fnExactCodesOf", apart := false }
def FnExactCodesOfSaid : Prop := fnExactCodesOfRow.holds Try.pinned (OpenSpec.ofChange fnExactCodesOfSpec)

/-- ITS FALSE NEIGHBOUR: 'it returns false'. Refute it at one input. -/
def fnExactCodesOfWrong : ChangeSpec := { name := "fnExactCodesOf", fn := fun _ => fun
  | [d] => { results := [.lit (.bool false)], args := [d] }
  | _ => none }
def FnExactCodesOfWrongFalsely : Prop := fnExactCodesOfRow.holds Try.pinned (OpenSpec.ofChange fnExactCodesOfWrong)

/-- 'laws.FnExactTokensGreedy': WHATEVER THE INPUT: true; the input reads as it did. -/
def fnExactTokensGreedySpec : ChangeSpec := { name := "fnExactTokensGreedy", fn := fun _ => fun
  | [d] => { results := [.lit (.bool true)], args := [d] }
  | _ => none }
def fnExactTokensGreedyRow : OpenClaim := { program := "ytnljhkleimjphaa", sum := "e03f4e6fee56164f83035f8d413e4136ecf0e645b73f43214b2964b3a6be707a", func := "loop.example/compressionlab/laws.FnExactTokensGreedy", spec := "fnExactTokensGreedy", apart := false }
def FnExactTokensGreedySaid : Prop := fnExactTokensGreedyRow.holds Try.pinned (OpenSpec.ofChange fnExactTokensGreedySpec)

/-- ITS FALSE NEIGHBOUR: 'it returns false'. Refute it at one input. -/
def fnExactTokensGreedyWrong : ChangeSpec := { name := "fnExactTokensGreedy", fn := fun _ => fun
  | [d] => { results := [.lit (.bool false)], args := [d] }
  | _ => none }
def FnExactTokensGreedyWrongFalsely : Prop := fnExactTokensGreedyRow.holds Try.pinned (OpenSpec.ofChange fnExactTokensGreedyWrong)

/-- 'laws.FnExactParseBest': WHATEVER THE INPUT: true; the input reads as it did. -/
def fnExactParseBestSpec : ChangeSpec := { name := "fnExactParseBest", fn := fun _ => fun
  | [d] => { results := [.lit (.bool true)], args := [d] }
  | _ => none }
def fnExactParseBestRow : OpenClaim := { program := "ytnljhkleimjphaa", sum := "e03f4e6fee56164f83035f8d413e4136ecf0e645b73f43214b2964b3a6be707a", func := "loop.example/compressionlab/laws.FnExactParseBest", spec := "fnExactParseBest", apart := false }
def FnExactParseBestSaid : Prop := fnExactParseBestRow.holds Try.pinned (OpenSpec.ofChange fnExactParseBestSpec)

/-- ITS FALSE NEIGHBOUR: 'it returns false'. Refute it at one input. -/
def fnExactParseBestWrong : ChangeSpec := { name := "fnExactParseBest", fn := fun _ => fun
  | [d] => { results := [.lit (.bool false)], args := [d] }
  | _ => none }
def FnExactParseBestWrongFalsely : Prop := fnExactParseBestRow.holds Try.pinned (OpenSpec.ofChange fnExactParseBestWrong)

/-- 'laws.FnExactLengthsOf': WHATEVER THE INPUT: true; the input reads as it did. -/
def fnExactLengthsOfSpec : ChangeSpec := { name := "fnExactLengthsOf", fn := fun _ => fun
  | [d] => { results := [.lit (.bool true)], args := [d] }
  | _ => none }
def fnExactLengthsOfRow : OpenClaim := { program := "ytnljhkleimjphaa", sum := "e03f4e6fee56164f83035f8d413e4136ecf0e645b73f43214b2964b3a6be707a", func := "loop.example/compressionlab/laws.FnExactLengthsOf", spec := "fnExactLengthsOf", unfollowed := true, recurses := true, apart := false }
def FnExactLengthsOfSaid : Prop := fnExactLengthsOfRow.holds Try.pinned (OpenSpec.ofChange fnExactLengthsOfSpec)

/-- ITS FALSE NEIGHBOUR: 'it returns false'. Refute it at one input. -/
def fnExactLengthsOfWrong : ChangeSpec := { name := "fnExactLengthsOf", fn := fun _ => fun
  | [d] => { results := [.lit (.bool false)], args := [d] }
  | _ => none }
def FnExactLengthsOfWrongFalsely : Prop := fnExactLengthsOfRow.holds Try.pinned (OpenSpec.ofChange fnExactLengthsOfWrong)

/- THE SECOND FORM. 'bulk': how many values and letters a reading holds, each counted each time it is reached (what is shared counts as often as it is met; a slice's spare places count too). A statement '..UptoSaid' is the law's where the arguments, and the package variables that the reading takes, are together of bulk at most 1048576: NARROWER than '..Said'. Prove '..Said' where nothing that the law and all that it calls make is longer than what came in: it says more and counts as full. Else prove '..UptoSaid'. A law counts once. -/
mutual
def uptoBulk {H : Type} : DataW H → Nat
  | .lit (.string bytes) => bytes.length + 1
  | .lit _ => 1
  | .nil => 1
  | .ptr d => uptoBulk d + 1
  | .slice elems spare => uptoBulkAll elems + uptoBulkAll spare + 1
  | .agg parts => uptoBulkAll parts + 1
  | .iface _ d => uptoBulk d + 1
  | .map entries => uptoBulkEntries entries + 1
  | .held _ => 1
def uptoBulkAll {H : Type} : List (DataW H) → Nat
  | [] => 0
  | d :: r => uptoBulk d + uptoBulkAll r
def uptoBulkEntries {H : Type} : List (Lit × DataW H) → Nat
  | [] => 0
  | x :: r => uptoBulkEntry x + uptoBulkEntries r
def uptoBulkEntry {H : Type} : Lit × DataW H → Nat
  | (.string bytes, d) => bytes.length + uptoBulk d + 1
  | (_, d) => uptoBulk d + 1
 end
def uptoSmall : (H : Type) → List (DataW H) → Bool := fun _ ds => decide (uptoBulkAll ds ≤ 1048576)
def OpenSpec.upto (s : _root_.Go.ChangeSpec) : _root_.Go.OpenSpec := { _root_.Go.OpenSpec.ofChange s with cond := some uptoSmall }

/-- 'laws.FnExactTokensLongest', WHERE WHAT IT READS IS OF BULK AT MOST 1048576: true; the input reads as it did. -/
def fnExactTokensLongestUptoRow : OpenClaim := { program := "ytnljhkleimjphaa", sum := "e03f4e6fee56164f83035f8d413e4136ecf0e645b73f43214b2964b3a6be707a", func := "loop.example/compressionlab/laws.FnExactTokensLongest", spec := "fnExactTokensLongest", apart := false, narrowed := true }
def FnExactTokensLongestUptoSaid : Prop := fnExactTokensLongestUptoRow.holds Try.pinned (OpenSpec.upto fnExactTokensLongestSpec)

/-- 'laws.FnExactLengthsCost', WHERE WHAT IT READS IS OF BULK AT MOST 1048576: true; the input reads as it did. -/
def fnExactLengthsCostUptoRow : OpenClaim := { program := "ytnljhkleimjphaa", sum := "e03f4e6fee56164f83035f8d413e4136ecf0e645b73f43214b2964b3a6be707a", func := "loop.example/compressionlab/laws.FnExactLengthsCost", spec := "fnExactLengthsCost", apart := false, narrowed := true }
def FnExactLengthsCostUptoSaid : Prop := fnExactLengthsCostUptoRow.holds Try.pinned (OpenSpec.upto fnExactLengthsCostSpec)

/-- 'laws.FnExactTokensCost', WHERE WHAT IT READS IS OF BULK AT MOST 1048576: true; the input reads as it did. -/
def fnExactTokensCostUptoRow : OpenClaim := { program := "ytnljhkleimjphaa", sum := "e03f4e6fee56164f83035f8d413e4136ecf0e645b73f43214b2964b3a6be707a", func := "loop.example/compressionlab/laws.FnExactTokensCost", spec := "fnExactTokensCost", apart := false, narrowed := true }
def FnExactTokensCostUptoSaid : Prop := fnExactTokensCostUptoRow.holds Try.pinned (OpenSpec.upto fnExactTokensCostSpec)

/-- 'laws.FnExactTokensExpand', WHERE WHAT IT READS IS OF BULK AT MOST 1048576: true; the input reads as it did. -/
def fnExactTokensExpandUptoRow : OpenClaim := { program := "ytnljhkleimjphaa", sum := "e03f4e6fee56164f83035f8d413e4136ecf0e645b73f43214b2964b3a6be707a", func := "loop.example/compressionlab/laws.FnExactTokensExpand", spec := "fnExactTokensExpand", apart := false, narrowed := true }
def FnExactTokensExpandUptoSaid : Prop := fnExactTokensExpandUptoRow.holds Try.pinned (OpenSpec.upto fnExactTokensExpandSpec)

/-- 'laws.FnExactCodesOf', WHERE WHAT IT READS IS OF BULK AT MOST 1048576: true; the input reads as it did. -/
def fnExactCodesOfUptoRow : OpenClaim := { program := "ytnljhkleimjphaa", sum := "e03f4e6fee56164f83035f8d413e4136ecf0e645b73f43214b2964b3a6be707a", func := "loop.example/compressionlab/laws.FnExactCodesOf", spec := "fnExactCodesOf", apart := false, narrowed := true }
def FnExactCodesOfUptoSaid : Prop := fnExactCodesOfUptoRow.holds Try.pinned (OpenSpec.upto fnExactCodesOfSpec)

/-- 'laws.FnExactTokensGreedy', WHERE WHAT IT READS IS OF BULK AT MOST 1048576: true; the input reads as it did. -/
def fnExactTokensGreedyUptoRow : OpenClaim := { program := "ytnljhkleimjphaa", sum := "e03f4e6fee56164f83035f8d413e4136ecf0e645b73f43214b2964b3a6be707a", func := "loop.example/compressionlab/laws.FnExactTokensGreedy", spec := "fnExactTokensGreedy", apart := false, narrowed := true }
def FnExactTokensGreedyUptoSaid : Prop := fnExactTokensGreedyUptoRow.holds Try.pinned (OpenSpec.upto fnExactTokensGreedySpec)

/-- 'laws.FnExactParseBest', WHERE WHAT IT READS IS OF BULK AT MOST 1048576: true; the input reads as it did. -/
def fnExactParseBestUptoRow : OpenClaim := { program := "ytnljhkleimjphaa", sum := "e03f4e6fee56164f83035f8d413e4136ecf0e645b73f43214b2964b3a6be707a", func := "loop.example/compressionlab/laws.FnExactParseBest", spec := "fnExactParseBest", apart := false, narrowed := true }
def FnExactParseBestUptoSaid : Prop := fnExactParseBestUptoRow.holds Try.pinned (OpenSpec.upto fnExactParseBestSpec)

/-- 'laws.FnExactLengthsOf', WHERE WHAT IT READS IS OF BULK AT MOST 1048576: true; the input reads as it did. -/
def fnExactLengthsOfUptoRow : OpenClaim := { program := "ytnljhkleimjphaa", sum := "e03f4e6fee56164f83035f8d413e4136ecf0e645b73f43214b2964b3a6be707a", func := "loop.example/compressionlab/laws.FnExactLengthsOf", spec := "fnExactLengthsOf", unfollowed := true, recurses := true, apart := false, narrowed := true }
def FnExactLengthsOfUptoSaid : Prop := fnExactLengthsOfUptoRow.holds Try.pinned (OpenSpec.upto fnExactLengthsOfSpec)

end Rows
end Go.Proofs.Ytnljhkleimjphaa
