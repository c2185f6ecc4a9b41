/-
  No cell of these rows narrows 'for every input' (looked for: loops, veiled, ifaces, maps, wideKeys, modest, calm, conditions, laid).
  DERIVED. THE GIVEN ROWS OF THIS SEAT. 9 by the template 'for every input the law returns true; each argument reads behind the call as it read before'; 0 by the template 'total and deterministic' (their statements: YtjbedonncjppfaaTotals.lean).
  GIVEN WITH THE SEED: the statements are not yours to turn. If you find one false, say at which input.
  Laid BY PROGRAM, IN A SANDBOX (cutbox-rows.mjs): the forced cells as the released guide's own fill.sh prints them over the translation c3d684e9bb4fc3a5… (all of the seat's roots in one cut). By AI agents, Wed Nov 11 2026. No macro, syntax, notation, axiom, sorry.
-/
import Derived.Test.YtjbedonncjppfaaChecked
import GoSem.Claim
import GoSem.ClaimJoined
import GoSem.ClaimMapViews
import Derived.JoinedTies
import Derived.KernelRfl
namespace Go.Proofs.Ytjbedonncjppfaa
/- THE CELL 'sum', in the pinned program and in every row, IS THE sha256 OF THE DUMP (.gsa) THAT YtjbedonncjppfaaProg.lean LOADS. Nothing in Lean hashes anything: it is a label: what it is worth is what the hold of that sum in a sandbox is worth. -/
noncomputable def Try.pinned : Pinned := { name := "ytjbedonncjppfaa", sum := "c3d684e9bb4fc3a59ce044e0455d67247c239f34b05581a1b2abbb6c7d751fa6", checked := Try.checked }
namespace Rows
def none {H : Type} : Left H := { results := [], args := [] }

/-- 'laws.FnMatch': WHATEVER THE INPUT: true; the input reads as it did. -/
def fnMatchSpec : ChangeSpec := { name := "fnMatch", fn := fun _ => fun
  | [d] => { results := [.lit (.bool true)], args := [d] }
  | _ => none }
def fnMatchRow : OpenClaim := { program := "ytjbedonncjppfaa", sum := "c3d684e9bb4fc3a59ce044e0455d67247c239f34b05581a1b2abbb6c7d751fa6", func := "loop.example/compressionlab/laws.FnMatch", spec := "fnMatch", apart := false }
def FnMatchSaid : Prop := fnMatchRow.holds Try.pinned (OpenSpec.ofChange fnMatchSpec)

/-- ITS FALSE NEIGHBOUR: 'it returns false'. Refute it at one input. -/
def fnMatchWrong : ChangeSpec := { name := "fnMatch", fn := fun _ => fun
  | [d] => { results := [.lit (.bool false)], args := [d] }
  | _ => none }
def FnMatchWrongFalsely : Prop := fnMatchRow.holds Try.pinned (OpenSpec.ofChange fnMatchWrong)

/-- 'laws.FnMatchLongest': WHATEVER THE INPUT: true; the input reads as it did. -/
def fnMatchLongestSpec : ChangeSpec := { name := "fnMatchLongest", fn := fun _ => fun
  | [d] => { results := [.lit (.bool true)], args := [d] }
  | _ => none }
def fnMatchLongestRow : OpenClaim := { program := "ytjbedonncjppfaa", sum := "c3d684e9bb4fc3a59ce044e0455d67247c239f34b05581a1b2abbb6c7d751fa6", func := "loop.example/compressionlab/laws.FnMatchLongest", spec := "fnMatchLongest", apart := false }
def FnMatchLongestSaid : Prop := fnMatchLongestRow.holds Try.pinned (OpenSpec.ofChange fnMatchLongestSpec)

/-- ITS FALSE NEIGHBOUR: 'it returns false'. Refute it at one input. -/
def fnMatchLongestWrong : ChangeSpec := { name := "fnMatchLongest", fn := fun _ => fun
  | [d] => { results := [.lit (.bool false)], args := [d] }
  | _ => none }
def FnMatchLongestWrongFalsely : Prop := fnMatchLongestRow.holds Try.pinned (OpenSpec.ofChange fnMatchLongestWrong)

/-- 'laws.FnMatchNone': WHATEVER THE INPUT: true; the input reads as it did. -/
def fnMatchNoneSpec : ChangeSpec := { name := "fnMatchNone", fn := fun _ => fun
  | [d] => { results := [.lit (.bool true)], args := [d] }
  | _ => none }
def fnMatchNoneRow : OpenClaim := { program := "ytjbedonncjppfaa", sum := "c3d684e9bb4fc3a59ce044e0455d67247c239f34b05581a1b2abbb6c7d751fa6", func := "loop.example/compressionlab/laws.FnMatchNone", spec := "fnMatchNone", apart := false }
def FnMatchNoneSaid : Prop := fnMatchNoneRow.holds Try.pinned (OpenSpec.ofChange fnMatchNoneSpec)

/-- ITS FALSE NEIGHBOUR: 'it returns false'. Refute it at one input. -/
def fnMatchNoneWrong : ChangeSpec := { name := "fnMatchNone", fn := fun _ => fun
  | [d] => { results := [.lit (.bool false)], args := [d] }
  | _ => none }
def FnMatchNoneWrongFalsely : Prop := fnMatchNoneRow.holds Try.pinned (OpenSpec.ofChange fnMatchNoneWrong)

/-- 'laws.FnExpandBegin': WHATEVER THE INPUT: true; the input reads as it did. -/
def fnExpandBeginSpec : ChangeSpec := { name := "fnExpandBegin", fn := fun _ => fun
  | [d1, d2] => { results := [.lit (.bool true)], args := [d1, d2] }
  | _ => none }
def fnExpandBeginRow : OpenClaim := { program := "ytjbedonncjppfaa", sum := "c3d684e9bb4fc3a59ce044e0455d67247c239f34b05581a1b2abbb6c7d751fa6", func := "loop.example/compressionlab/laws.FnExpandBegin", spec := "fnExpandBegin", apart := false }
def FnExpandBeginSaid : Prop := fnExpandBeginRow.holds Try.pinned (OpenSpec.ofChange fnExpandBeginSpec)

/-- ITS FALSE NEIGHBOUR: 'it returns false'. Refute it at one input. -/
def fnExpandBeginWrong : ChangeSpec := { name := "fnExpandBegin", fn := fun _ => fun
  | [d1, d2] => { results := [.lit (.bool false)], args := [d1, d2] }
  | _ => none }
def FnExpandBeginWrongFalsely : Prop := fnExpandBeginRow.holds Try.pinned (OpenSpec.ofChange fnExpandBeginWrong)

/-- 'laws.FnExpand': WHATEVER THE INPUT: true; the input reads as it did. -/
def fnExpandSpec : ChangeSpec := { name := "fnExpand", fn := fun _ => fun
  | [d] => { results := [.lit (.bool true)], args := [d] }
  | _ => none }
def fnExpandRow : OpenClaim := { program := "ytjbedonncjppfaa", sum := "c3d684e9bb4fc3a59ce044e0455d67247c239f34b05581a1b2abbb6c7d751fa6", func := "loop.example/compressionlab/laws.FnExpand", spec := "fnExpand", apart := false }
def FnExpandSaid : Prop := fnExpandRow.holds Try.pinned (OpenSpec.ofChange fnExpandSpec)

/-- ITS FALSE NEIGHBOUR: 'it returns false'. Refute it at one input. -/
def fnExpandWrong : ChangeSpec := { name := "fnExpand", fn := fun _ => fun
  | [d] => { results := [.lit (.bool false)], args := [d] }
  | _ => none }
def FnExpandWrongFalsely : Prop := fnExpandRow.holds Try.pinned (OpenSpec.ofChange fnExpandWrong)

/-- 'laws.FnTokensLongest': WHATEVER THE INPUT: true; the input reads as it did. -/
def fnTokensLongestSpec : ChangeSpec := { name := "fnTokensLongest", fn := fun _ => fun
  | [d] => { results := [.lit (.bool true)], args := [d] }
  | _ => none }
def fnTokensLongestRow : OpenClaim := { program := "ytjbedonncjppfaa", sum := "c3d684e9bb4fc3a59ce044e0455d67247c239f34b05581a1b2abbb6c7d751fa6", func := "loop.example/compressionlab/laws.FnTokensLongest", spec := "fnTokensLongest", apart := false }
def FnTokensLongestSaid : Prop := fnTokensLongestRow.holds Try.pinned (OpenSpec.ofChange fnTokensLongestSpec)

/-- ITS FALSE NEIGHBOUR: 'it returns false'. Refute it at one input. -/
def fnTokensLongestWrong : ChangeSpec := { name := "fnTokensLongest", fn := fun _ => fun
  | [d] => { results := [.lit (.bool false)], args := [d] }
  | _ => none }
def FnTokensLongestWrongFalsely : Prop := fnTokensLongestRow.holds Try.pinned (OpenSpec.ofChange fnTokensLongestWrong)

/-- 'laws.FnTokensCost': WHATEVER THE INPUT: true; the input reads as it did. -/
def fnTokensCostSpec : ChangeSpec := { name := "fnTokensCost", fn := fun _ => fun
  | [d] => { results := [.lit (.bool true)], args := [d] }
  | _ => none }
def fnTokensCostRow : OpenClaim := { program := "ytjbedonncjppfaa", sum := "c3d684e9bb4fc3a59ce044e0455d67247c239f34b05581a1b2abbb6c7d751fa6", func := "loop.example/compressionlab/laws.FnTokensCost", spec := "fnTokensCost", apart := false }
def FnTokensCostSaid : Prop := fnTokensCostRow.holds Try.pinned (OpenSpec.ofChange fnTokensCostSpec)

/-- ITS FALSE NEIGHBOUR: 'it returns false'. Refute it at one input. -/
def fnTokensCostWrong : ChangeSpec := { name := "fnTokensCost", fn := fun _ => fun
  | [d] => { results := [.lit (.bool false)], args := [d] }
  | _ => none }
def FnTokensCostWrongFalsely : Prop := fnTokensCostRow.holds Try.pinned (OpenSpec.ofChange fnTokensCostWrong)

/-- 'laws.FnExpandRun': WHATEVER THE INPUT: true; the input reads as it did. -/
def fnExpandRunSpec : ChangeSpec := { name := "fnExpandRun", fn := fun _ => fun
  | [d1, d2] => { results := [.lit (.bool true)], args := [d1, d2] }
  | _ => none }
def fnExpandRunRow : OpenClaim := { program := "ytjbedonncjppfaa", sum := "c3d684e9bb4fc3a59ce044e0455d67247c239f34b05581a1b2abbb6c7d751fa6", func := "loop.example/compressionlab/laws.FnExpandRun", spec := "fnExpandRun", apart := false }
def FnExpandRunSaid : Prop := fnExpandRunRow.holds Try.pinned (OpenSpec.ofChange fnExpandRunSpec)

/-- ITS FALSE NEIGHBOUR: 'it returns false'. Refute it at one input. -/
def fnExpandRunWrong : ChangeSpec := { name := "fnExpandRun", fn := fun _ => fun
  | [d1, d2] => { results := [.lit (.bool false)], args := [d1, d2] }
  | _ => none }
def FnExpandRunWrongFalsely : Prop := fnExpandRunRow.holds Try.pinned (OpenSpec.ofChange fnExpandRunWrong)

/-- 'laws.FnParseLeast': WHATEVER THE INPUT: true; the input reads as it did. -/
def fnParseLeastSpec : ChangeSpec := { name := "fnParseLeast", fn := fun _ => fun
  | [d] => { results := [.lit (.bool true)], args := [d] }
  | _ => none }
def fnParseLeastRow : OpenClaim := { program := "ytjbedonncjppfaa", sum := "c3d684e9bb4fc3a59ce044e0455d67247c239f34b05581a1b2abbb6c7d751fa6", func := "loop.example/compressionlab/laws.FnParseLeast", spec := "fnParseLeast", apart := false }
def FnParseLeastSaid : Prop := fnParseLeastRow.holds Try.pinned (OpenSpec.ofChange fnParseLeastSpec)

/-- ITS FALSE NEIGHBOUR: 'it returns false'. Refute it at one input. -/
def fnParseLeastWrong : ChangeSpec := { name := "fnParseLeast", fn := fun _ => fun
  | [d] => { results := [.lit (.bool false)], args := [d] }
  | _ => none }
def FnParseLeastWrongFalsely : Prop := fnParseLeastRow.holds Try.pinned (OpenSpec.ofChange fnParseLeastWrong)

/- THE SECOND FORM. 'bulk': how many values and letters a reading holds, each counted each time it is reached (what is shared counts as often as it is met; a slice's spare places count too). A statement '..UptoSaid' is the law's where the arguments, and the package variables that the reading takes, are together of bulk at most 1048576: NARROWER than '..Said'. Prove '..Said' where nothing that the law and all that it calls make is longer than what came in: it says more and counts as full. Else prove '..UptoSaid'. A law counts once. -/
mutual
def uptoBulk {H : Type} : DataW H → Nat
  | .lit (.string bytes) => bytes.length + 1
  | .lit _ => 1
  | .nil => 1
  | .ptr d => uptoBulk d + 1
  | .slice elems spare => uptoBulkAll elems + uptoBulkAll spare + 1
  | .agg parts => uptoBulkAll parts + 1
  | .iface _ d => uptoBulk d + 1
  | .map entries => uptoBulkEntries entries + 1
  | .held _ => 1
def uptoBulkAll {H : Type} : List (DataW H) → Nat
  | [] => 0
  | d :: r => uptoBulk d + uptoBulkAll r
def uptoBulkEntries {H : Type} : List (Lit × DataW H) → Nat
  | [] => 0
  | x :: r => uptoBulkEntry x + uptoBulkEntries r
def uptoBulkEntry {H : Type} : Lit × DataW H → Nat
  | (.string bytes, d) => bytes.length + uptoBulk d + 1
  | (_, d) => uptoBulk d + 1
 end
def uptoSmall : (H : Type) → List (DataW H) → Bool := fun _ ds => decide (uptoBulkAll ds ≤ 1048576)
def OpenSpec.upto (s : _root_.Go.ChangeSpec) : _root_.Go.OpenSpec := { _root_.Go.OpenSpec.ofChange s with cond := some uptoSmall }

/-- 'laws.FnMatch', WHERE WHAT IT READS IS OF BULK AT MOST 1048576: true; the input reads as it did. -/
def fnMatchUptoRow : OpenClaim := { program := "ytjbedonncjppfaa", sum := "c3d684e9bb4fc3a59ce044e0455d67247c239f34b05581a1b2abbb6c7d751fa6", func := "loop.example/compressionlab/laws.FnMatch", spec := "fnMatch", apart := false, narrowed := true }
def FnMatchUptoSaid : Prop := fnMatchUptoRow.holds Try.pinned (OpenSpec.upto fnMatchSpec)

/-- 'laws.FnMatchLongest', WHERE WHAT IT READS IS OF BULK AT MOST 1048576: true; the input reads as it did. -/
def fnMatchLongestUptoRow : OpenClaim := { program := "ytjbedonncjppfaa", sum := "c3d684e9bb4fc3a59ce044e0455d67247c239f34b05581a1b2abbb6c7d751fa6", func := "loop.example/compressionlab/laws.FnMatchLongest", spec := "fnMatchLongest", apart := false, narrowed := true }
def FnMatchLongestUptoSaid : Prop := fnMatchLongestUptoRow.holds Try.pinned (OpenSpec.upto fnMatchLongestSpec)

/-- 'laws.FnMatchNone', WHERE WHAT IT READS IS OF BULK AT MOST 1048576: true; the input reads as it did. -/
def fnMatchNoneUptoRow : OpenClaim := { program := "ytjbedonncjppfaa", sum := "c3d684e9bb4fc3a59ce044e0455d67247c239f34b05581a1b2abbb6c7d751fa6", func := "loop.example/compressionlab/laws.FnMatchNone", spec := "fnMatchNone", apart := false, narrowed := true }
def FnMatchNoneUptoSaid : Prop := fnMatchNoneUptoRow.holds Try.pinned (OpenSpec.upto fnMatchNoneSpec)

/-- 'laws.FnExpandBegin', WHERE WHAT IT READS IS OF BULK AT MOST 1048576: true; the input reads as it did. -/
def fnExpandBeginUptoRow : OpenClaim := { program := "ytjbedonncjppfaa", sum := "c3d684e9bb4fc3a59ce044e0455d67247c239f34b05581a1b2abbb6c7d751fa6", func := "loop.example/compressionlab/laws.FnExpandBegin", spec := "fnExpandBegin", apart := false, narrowed := true }
def FnExpandBeginUptoSaid : Prop := fnExpandBeginUptoRow.holds Try.pinned (OpenSpec.upto fnExpandBeginSpec)

/-- 'laws.FnExpand', WHERE WHAT IT READS IS OF BULK AT MOST 1048576: true; the input reads as it did. -/
def fnExpandUptoRow : OpenClaim := { program := "ytjbedonncjppfaa", sum := "c3d684e9bb4fc3a59ce044e0455d67247c239f34b05581a1b2abbb6c7d751fa6", func := "loop.example/compressionlab/laws.FnExpand", spec := "fnExpand", apart := false, narrowed := true }
def FnExpandUptoSaid : Prop := fnExpandUptoRow.holds Try.pinned (OpenSpec.upto fnExpandSpec)

/-- 'laws.FnTokensLongest', WHERE WHAT IT READS IS OF BULK AT MOST 1048576: true; the input reads as it did. -/
def fnTokensLongestUptoRow : OpenClaim := { program := "ytjbedonncjppfaa", sum := "c3d684e9bb4fc3a59ce044e0455d67247c239f34b05581a1b2abbb6c7d751fa6", func := "loop.example/compressionlab/laws.FnTokensLongest", spec := "fnTokensLongest", apart := false, narrowed := true }
def FnTokensLongestUptoSaid : Prop := fnTokensLongestUptoRow.holds Try.pinned (OpenSpec.upto fnTokensLongestSpec)

/-- 'laws.FnTokensCost', WHERE WHAT IT READS IS OF BULK AT MOST 1048576: true; the input reads as it did. -/
def fnTokensCostUptoRow : OpenClaim := { program := "ytjbedonncjppfaa", sum := "c3d684e9bb4fc3a59ce044e0455d67247c239f34b05581a1b2abbb6c7d751fa6", func := "loop.example/compressionlab/laws.FnTokensCost", spec := "fnTokensCost", apart := false, narrowed := true }
def FnTokensCostUptoSaid : Prop := fnTokensCostUptoRow.holds Try.pinned (OpenSpec.upto fnTokensCostSpec)

/-- 'laws.FnExpandRun', WHERE WHAT IT READS IS OF BULK AT MOST 1048576: true; the input reads as it did. -/
def fnExpandRunUptoRow : OpenClaim := { program := "ytjbedonncjppfaa", sum := "c3d684e9bb4fc3a59ce044e0455d67247c239f34b05581a1b2abbb6c7d751fa6", func := "loop.example/compressionlab/laws.FnExpandRun", spec := "fnExpandRun", apart := false, narrowed := true }
def FnExpandRunUptoSaid : Prop := fnExpandRunUptoRow.holds Try.pinned (OpenSpec.upto fnExpandRunSpec)

/-- 'laws.FnParseLeast', WHERE WHAT IT READS IS OF BULK AT MOST 1048576: true; the input reads as it did. -/
def fnParseLeastUptoRow : OpenClaim := { program := "ytjbedonncjppfaa", sum := "c3d684e9bb4fc3a59ce044e0455d67247c239f34b05581a1b2abbb6c7d751fa6", func := "loop.example/compressionlab/laws.FnParseLeast", spec := "fnParseLeast", apart := false, narrowed := true }
def FnParseLeastUptoSaid : Prop := fnParseLeastUptoRow.holds Try.pinned (OpenSpec.upto fnParseLeastSpec)

end Rows
end Go.Proofs.Ytjbedonncjppfaa
