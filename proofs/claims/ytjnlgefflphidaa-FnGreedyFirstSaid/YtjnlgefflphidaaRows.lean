/-
  No cell of these rows narrows 'for every input' (looked for: loops, veiled, ifaces, maps, wideKeys, modest, calm, conditions, laid).
  DERIVED. THE GIVEN ROWS OF THIS SEAT. 17 by the template 'for every input the law returns true; each argument reads behind the call as it read before'; 0 by the template 'total and deterministic' (their statements: YtjnlgefflphidaaTotals.lean).
  GIVEN WITH THE SEED: the statements are not yours to turn. If you find one false, say at which input.
  Laid BY PROGRAM, IN A SANDBOX (cutbox-rows.mjs): the forced cells as the released guide's own fill.sh prints them over the translation 9eee78ba8dedde2f… (all of the seat's roots in one cut). By AI agents, Wed Nov 11 2026. No macro, syntax, notation, axiom, sorry.
-/
import Derived.Test.YtjnlgefflphidaaChecked
import GoSem.Claim
import GoSem.ClaimJoined
import GoSem.ClaimMapViews
import Derived.JoinedTies
import Derived.KernelRfl
namespace Go.Proofs.Ytjnlgefflphidaa
/- THE CELL 'sum', in the pinned program and in every row, IS THE sha256 OF THE DUMP (.gsa) THAT YtjnlgefflphidaaProg.lean LOADS. Nothing in Lean hashes anything: it is a label: what it is worth is what the hold of that sum in a sandbox is worth. -/
noncomputable def Try.pinned : Pinned := { name := "ytjnlgefflphidaa", sum := "9eee78ba8dedde2fbca23dcacd221f94868799c2778c105542faf3ad379055dc", checked := Try.checked }
namespace Rows
def none {H : Type} : Left H := { results := [], args := [] }

/-- 'laws.FnMatch': WHATEVER THE INPUT: true; the input reads as it did. -/
def fnMatchSpec : ChangeSpec := { name := "fnMatch", fn := fun _ => fun
  | [d] => { results := [.lit (.bool true)], args := [d] }
  | _ => none }
def fnMatchRow : OpenClaim := { program := "ytjnlgefflphidaa", sum := "9eee78ba8dedde2fbca23dcacd221f94868799c2778c105542faf3ad379055dc", func := "loop.example/compressionlab/laws.FnMatch", spec := "fnMatch", apart := false }
def FnMatchSaid : Prop := fnMatchRow.holds Try.pinned (OpenSpec.ofChange fnMatchSpec)

/-- ITS FALSE NEIGHBOUR: 'it returns false'. Refute it at one input. -/
def fnMatchWrong : ChangeSpec := { name := "fnMatch", fn := fun _ => fun
  | [d] => { results := [.lit (.bool false)], args := [d] }
  | _ => none }
def FnMatchWrongFalsely : Prop := fnMatchRow.holds Try.pinned (OpenSpec.ofChange fnMatchWrong)

/-- 'laws.FnMatchLongest': WHATEVER THE INPUT: true; the input reads as it did. -/
def fnMatchLongestSpec : ChangeSpec := { name := "fnMatchLongest", fn := fun _ => fun
  | [d] => { results := [.lit (.bool true)], args := [d] }
  | _ => none }
def fnMatchLongestRow : OpenClaim := { program := "ytjnlgefflphidaa", sum := "9eee78ba8dedde2fbca23dcacd221f94868799c2778c105542faf3ad379055dc", func := "loop.example/compressionlab/laws.FnMatchLongest", spec := "fnMatchLongest", apart := false }
def FnMatchLongestSaid : Prop := fnMatchLongestRow.holds Try.pinned (OpenSpec.ofChange fnMatchLongestSpec)

/-- ITS FALSE NEIGHBOUR: 'it returns false'. Refute it at one input. -/
def fnMatchLongestWrong : ChangeSpec := { name := "fnMatchLongest", fn := fun _ => fun
  | [d] => { results := [.lit (.bool false)], args := [d] }
  | _ => none }
def FnMatchLongestWrongFalsely : Prop := fnMatchLongestRow.holds Try.pinned (OpenSpec.ofChange fnMatchLongestWrong)

/-- 'laws.FnParseMore': WHATEVER THE INPUT: true; the input reads as it did. -/
def fnParseMoreSpec : ChangeSpec := { name := "fnParseMore", fn := fun _ => fun
  | [d] => { results := [.lit (.bool true)], args := [d] }
  | _ => none }
def fnParseMoreRow : OpenClaim := { program := "ytjnlgefflphidaa", sum := "9eee78ba8dedde2fbca23dcacd221f94868799c2778c105542faf3ad379055dc", func := "loop.example/compressionlab/laws.FnParseMore", spec := "fnParseMore", apart := false }
def FnParseMoreSaid : Prop := fnParseMoreRow.holds Try.pinned (OpenSpec.ofChange fnParseMoreSpec)

/-- ITS FALSE NEIGHBOUR: 'it returns false'. Refute it at one input. -/
def fnParseMoreWrong : ChangeSpec := { name := "fnParseMore", fn := fun _ => fun
  | [d] => { results := [.lit (.bool false)], args := [d] }
  | _ => none }
def FnParseMoreWrongFalsely : Prop := fnParseMoreRow.holds Try.pinned (OpenSpec.ofChange fnParseMoreWrong)

/-- 'laws.FnParseRun': WHATEVER THE INPUT: true; the input reads as it did. -/
def fnParseRunSpec : ChangeSpec := { name := "fnParseRun", fn := fun _ => fun
  | [d1, d2] => { results := [.lit (.bool true)], args := [d1, d2] }
  | _ => none }
def fnParseRunRow : OpenClaim := { program := "ytjnlgefflphidaa", sum := "9eee78ba8dedde2fbca23dcacd221f94868799c2778c105542faf3ad379055dc", func := "loop.example/compressionlab/laws.FnParseRun", spec := "fnParseRun", apart := false }
def FnParseRunSaid : Prop := fnParseRunRow.holds Try.pinned (OpenSpec.ofChange fnParseRunSpec)

/-- ITS FALSE NEIGHBOUR: 'it returns false'. Refute it at one input. -/
def fnParseRunWrong : ChangeSpec := { name := "fnParseRun", fn := fun _ => fun
  | [d1, d2] => { results := [.lit (.bool false)], args := [d1, d2] }
  | _ => none }
def FnParseRunWrongFalsely : Prop := fnParseRunRow.holds Try.pinned (OpenSpec.ofChange fnParseRunWrong)

/-- 'laws.FnParseTwo': WHATEVER THE INPUT: true; the input reads as it did. -/
def fnParseTwoSpec : ChangeSpec := { name := "fnParseTwo", fn := fun _ => fun
  | [d1, d2] => { results := [.lit (.bool true)], args := [d1, d2] }
  | _ => none }
def fnParseTwoRow : OpenClaim := { program := "ytjnlgefflphidaa", sum := "9eee78ba8dedde2fbca23dcacd221f94868799c2778c105542faf3ad379055dc", func := "loop.example/compressionlab/laws.FnParseTwo", spec := "fnParseTwo", apart := false }
def FnParseTwoSaid : Prop := fnParseTwoRow.holds Try.pinned (OpenSpec.ofChange fnParseTwoSpec)

/-- ITS FALSE NEIGHBOUR: 'it returns false'. Refute it at one input. -/
def fnParseTwoWrong : ChangeSpec := { name := "fnParseTwo", fn := fun _ => fun
  | [d1, d2] => { results := [.lit (.bool false)], args := [d1, d2] }
  | _ => none }
def FnParseTwoWrongFalsely : Prop := fnParseTwoRow.holds Try.pinned (OpenSpec.ofChange fnParseTwoWrong)

/-- 'laws.FnGreedyFirst': WHATEVER THE INPUT: true; the input reads as it did. -/
def fnGreedyFirstSpec : ChangeSpec := { name := "fnGreedyFirst", fn := fun _ => fun
  | [d] => { results := [.lit (.bool true)], args := [d] }
  | _ => none }
def fnGreedyFirstRow : OpenClaim := { program := "ytjnlgefflphidaa", sum := "9eee78ba8dedde2fbca23dcacd221f94868799c2778c105542faf3ad379055dc", func := "loop.example/compressionlab/laws.FnGreedyFirst", spec := "fnGreedyFirst", apart := false }
def FnGreedyFirstSaid : Prop := fnGreedyFirstRow.holds Try.pinned (OpenSpec.ofChange fnGreedyFirstSpec)

/-- ITS FALSE NEIGHBOUR: 'it returns false'. Refute it at one input. -/
def fnGreedyFirstWrong : ChangeSpec := { name := "fnGreedyFirst", fn := fun _ => fun
  | [d] => { results := [.lit (.bool false)], args := [d] }
  | _ => none }
def FnGreedyFirstWrongFalsely : Prop := fnGreedyFirstRow.holds Try.pinned (OpenSpec.ofChange fnGreedyFirstWrong)

/-- 'laws.FnMatchNone': WHATEVER THE INPUT: true; the input reads as it did. -/
def fnMatchNoneSpec : ChangeSpec := { name := "fnMatchNone", fn := fun _ => fun
  | [d] => { results := [.lit (.bool true)], args := [d] }
  | _ => none }
def fnMatchNoneRow : OpenClaim := { program := "ytjnlgefflphidaa", sum := "9eee78ba8dedde2fbca23dcacd221f94868799c2778c105542faf3ad379055dc", func := "loop.example/compressionlab/laws.FnMatchNone", spec := "fnMatchNone", apart := false }
def FnMatchNoneSaid : Prop := fnMatchNoneRow.holds Try.pinned (OpenSpec.ofChange fnMatchNoneSpec)

/-- ITS FALSE NEIGHBOUR: 'it returns false'. Refute it at one input. -/
def fnMatchNoneWrong : ChangeSpec := { name := "fnMatchNone", fn := fun _ => fun
  | [d] => { results := [.lit (.bool false)], args := [d] }
  | _ => none }
def FnMatchNoneWrongFalsely : Prop := fnMatchNoneRow.holds Try.pinned (OpenSpec.ofChange fnMatchNoneWrong)

/-- 'laws.FnParseShort': WHATEVER THE INPUT: true; the input reads as it did. -/
def fnParseShortSpec : ChangeSpec := { name := "fnParseShort", fn := fun _ => fun
  | [d] => { results := [.lit (.bool true)], args := [d] }
  | _ => none }
def fnParseShortRow : OpenClaim := { program := "ytjnlgefflphidaa", sum := "9eee78ba8dedde2fbca23dcacd221f94868799c2778c105542faf3ad379055dc", func := "loop.example/compressionlab/laws.FnParseShort", spec := "fnParseShort", apart := false }
def FnParseShortSaid : Prop := fnParseShortRow.holds Try.pinned (OpenSpec.ofChange fnParseShortSpec)

/-- ITS FALSE NEIGHBOUR: 'it returns false'. Refute it at one input. -/
def fnParseShortWrong : ChangeSpec := { name := "fnParseShort", fn := fun _ => fun
  | [d] => { results := [.lit (.bool false)], args := [d] }
  | _ => none }
def FnParseShortWrongFalsely : Prop := fnParseShortRow.holds Try.pinned (OpenSpec.ofChange fnParseShortWrong)

/-- 'laws.FnExpandBegin': WHATEVER THE INPUT: true; the input reads as it did. -/
def fnExpandBeginSpec : ChangeSpec := { name := "fnExpandBegin", fn := fun _ => fun
  | [d1, d2] => { results := [.lit (.bool true)], args := [d1, d2] }
  | _ => none }
def fnExpandBeginRow : OpenClaim := { program := "ytjnlgefflphidaa", sum := "9eee78ba8dedde2fbca23dcacd221f94868799c2778c105542faf3ad379055dc", func := "loop.example/compressionlab/laws.FnExpandBegin", spec := "fnExpandBegin", apart := false }
def FnExpandBeginSaid : Prop := fnExpandBeginRow.holds Try.pinned (OpenSpec.ofChange fnExpandBeginSpec)

/-- ITS FALSE NEIGHBOUR: 'it returns false'. Refute it at one input. -/
def fnExpandBeginWrong : ChangeSpec := { name := "fnExpandBegin", fn := fun _ => fun
  | [d1, d2] => { results := [.lit (.bool false)], args := [d1, d2] }
  | _ => none }
def FnExpandBeginWrongFalsely : Prop := fnExpandBeginRow.holds Try.pinned (OpenSpec.ofChange fnExpandBeginWrong)

/-- 'laws.FnExpand': WHATEVER THE INPUT: true; the input reads as it did. -/
def fnExpandSpec : ChangeSpec := { name := "fnExpand", fn := fun _ => fun
  | [d] => { results := [.lit (.bool true)], args := [d] }
  | _ => none }
def fnExpandRow : OpenClaim := { program := "ytjnlgefflphidaa", sum := "9eee78ba8dedde2fbca23dcacd221f94868799c2778c105542faf3ad379055dc", func := "loop.example/compressionlab/laws.FnExpand", spec := "fnExpand", apart := false }
def FnExpandSaid : Prop := fnExpandRow.holds Try.pinned (OpenSpec.ofChange fnExpandSpec)

/-- ITS FALSE NEIGHBOUR: 'it returns false'. Refute it at one input. -/
def fnExpandWrong : ChangeSpec := { name := "fnExpand", fn := fun _ => fun
  | [d] => { results := [.lit (.bool false)], args := [d] }
  | _ => none }
def FnExpandWrongFalsely : Prop := fnExpandRow.holds Try.pinned (OpenSpec.ofChange fnExpandWrong)

/-- 'laws.FnGreedy': WHATEVER THE INPUT: true; the input reads as it did. -/
def fnGreedySpec : ChangeSpec := { name := "fnGreedy", fn := fun _ => fun
  | [d] => { results := [.lit (.bool true)], args := [d] }
  | _ => none }
def fnGreedyRow : OpenClaim := { program := "ytjnlgefflphidaa", sum := "9eee78ba8dedde2fbca23dcacd221f94868799c2778c105542faf3ad379055dc", func := "loop.example/compressionlab/laws.FnGreedy", spec := "fnGreedy", apart := false }
def FnGreedySaid : Prop := fnGreedyRow.holds Try.pinned (OpenSpec.ofChange fnGreedySpec)

/-- ITS FALSE NEIGHBOUR: 'it returns false'. Refute it at one input. -/
def fnGreedyWrong : ChangeSpec := { name := "fnGreedy", fn := fun _ => fun
  | [d] => { results := [.lit (.bool false)], args := [d] }
  | _ => none }
def FnGreedyWrongFalsely : Prop := fnGreedyRow.holds Try.pinned (OpenSpec.ofChange fnGreedyWrong)

/-- 'laws.FnTokensLongest': WHATEVER THE INPUT: true; the input reads as it did. -/
def fnTokensLongestSpec : ChangeSpec := { name := "fnTokensLongest", fn := fun _ => fun
  | [d] => { results := [.lit (.bool true)], args := [d] }
  | _ => none }
def fnTokensLongestRow : OpenClaim := { program := "ytjnlgefflphidaa", sum := "9eee78ba8dedde2fbca23dcacd221f94868799c2778c105542faf3ad379055dc", func := "loop.example/compressionlab/laws.FnTokensLongest", spec := "fnTokensLongest", apart := false }
def FnTokensLongestSaid : Prop := fnTokensLongestRow.holds Try.pinned (OpenSpec.ofChange fnTokensLongestSpec)

/-- ITS FALSE NEIGHBOUR: 'it returns false'. Refute it at one input. -/
def fnTokensLongestWrong : ChangeSpec := { name := "fnTokensLongest", fn := fun _ => fun
  | [d] => { results := [.lit (.bool false)], args := [d] }
  | _ => none }
def FnTokensLongestWrongFalsely : Prop := fnTokensLongestRow.holds Try.pinned (OpenSpec.ofChange fnTokensLongestWrong)

/-- 'laws.FnParseGreedy': WHATEVER THE INPUT: true; the input reads as it did. -/
def fnParseGreedySpec : ChangeSpec := { name := "fnParseGreedy", fn := fun _ => fun
  | [d] => { results := [.lit (.bool true)], args := [d] }
  | _ => none }
def fnParseGreedyRow : OpenClaim := { program := "ytjnlgefflphidaa", sum := "9eee78ba8dedde2fbca23dcacd221f94868799c2778c105542faf3ad379055dc", func := "loop.example/compressionlab/laws.FnParseGreedy", spec := "fnParseGreedy", apart := false }
def FnParseGreedySaid : Prop := fnParseGreedyRow.holds Try.pinned (OpenSpec.ofChange fnParseGreedySpec)

/-- ITS FALSE NEIGHBOUR: 'it returns false'. Refute it at one input. -/
def fnParseGreedyWrong : ChangeSpec := { name := "fnParseGreedy", fn := fun _ => fun
  | [d] => { results := [.lit (.bool false)], args := [d] }
  | _ => none }
def FnParseGreedyWrongFalsely : Prop := fnParseGreedyRow.holds Try.pinned (OpenSpec.ofChange fnParseGreedyWrong)

/-- 'laws.FnTokensCost': WHATEVER THE INPUT: true; the input reads as it did. -/
def fnTokensCostSpec : ChangeSpec := { name := "fnTokensCost", fn := fun _ => fun
  | [d] => { results := [.lit (.bool true)], args := [d] }
  | _ => none }
def fnTokensCostRow : OpenClaim := { program := "ytjnlgefflphidaa", sum := "9eee78ba8dedde2fbca23dcacd221f94868799c2778c105542faf3ad379055dc", func := "loop.example/compressionlab/laws.FnTokensCost", spec := "fnTokensCost", apart := false }
def FnTokensCostSaid : Prop := fnTokensCostRow.holds Try.pinned (OpenSpec.ofChange fnTokensCostSpec)

/-- ITS FALSE NEIGHBOUR: 'it returns false'. Refute it at one input. -/
def fnTokensCostWrong : ChangeSpec := { name := "fnTokensCost", fn := fun _ => fun
  | [d] => { results := [.lit (.bool false)], args := [d] }
  | _ => none }
def FnTokensCostWrongFalsely : Prop := fnTokensCostRow.holds Try.pinned (OpenSpec.ofChange fnTokensCostWrong)

/-- 'laws.FnExpandRun': WHATEVER THE INPUT: true; the input reads as it did. -/
def fnExpandRunSpec : ChangeSpec := { name := "fnExpandRun", fn := fun _ => fun
  | [d1, d2] => { results := [.lit (.bool true)], args := [d1, d2] }
  | _ => none }
def fnExpandRunRow : OpenClaim := { program := "ytjnlgefflphidaa", sum := "9eee78ba8dedde2fbca23dcacd221f94868799c2778c105542faf3ad379055dc", func := "loop.example/compressionlab/laws.FnExpandRun", spec := "fnExpandRun", apart := false }
def FnExpandRunSaid : Prop := fnExpandRunRow.holds Try.pinned (OpenSpec.ofChange fnExpandRunSpec)

/-- ITS FALSE NEIGHBOUR: 'it returns false'. Refute it at one input. -/
def fnExpandRunWrong : ChangeSpec := { name := "fnExpandRun", fn := fun _ => fun
  | [d1, d2] => { results := [.lit (.bool false)], args := [d1, d2] }
  | _ => none }
def FnExpandRunWrongFalsely : Prop := fnExpandRunRow.holds Try.pinned (OpenSpec.ofChange fnExpandRunWrong)

/-- 'laws.FnParseBest': WHATEVER THE INPUT: true; the input reads as it did. -/
def fnParseBestSpec : ChangeSpec := { name := "fnParseBest", fn := fun _ => fun
  | [d] => { results := [.lit (.bool true)], args := [d] }
  | _ => none }
def fnParseBestRow : OpenClaim := { program := "ytjnlgefflphidaa", sum := "9eee78ba8dedde2fbca23dcacd221f94868799c2778c105542faf3ad379055dc", func := "loop.example/compressionlab/laws.FnParseBest", spec := "fnParseBest", apart := false }
def FnParseBestSaid : Prop := fnParseBestRow.holds Try.pinned (OpenSpec.ofChange fnParseBestSpec)

/-- ITS FALSE NEIGHBOUR: 'it returns false'. Refute it at one input. -/
def fnParseBestWrong : ChangeSpec := { name := "fnParseBest", fn := fun _ => fun
  | [d] => { results := [.lit (.bool false)], args := [d] }
  | _ => none }
def FnParseBestWrongFalsely : Prop := fnParseBestRow.holds Try.pinned (OpenSpec.ofChange fnParseBestWrong)

/-- 'laws.FnParseLeast': WHATEVER THE INPUT: true; the input reads as it did. -/
def fnParseLeastSpec : ChangeSpec := { name := "fnParseLeast", fn := fun _ => fun
  | [d] => { results := [.lit (.bool true)], args := [d] }
  | _ => none }
def fnParseLeastRow : OpenClaim := { program := "ytjnlgefflphidaa", sum := "9eee78ba8dedde2fbca23dcacd221f94868799c2778c105542faf3ad379055dc", func := "loop.example/compressionlab/laws.FnParseLeast", spec := "fnParseLeast", apart := false }
def FnParseLeastSaid : Prop := fnParseLeastRow.holds Try.pinned (OpenSpec.ofChange fnParseLeastSpec)

/-- ITS FALSE NEIGHBOUR: 'it returns false'. Refute it at one input. -/
def fnParseLeastWrong : ChangeSpec := { name := "fnParseLeast", fn := fun _ => fun
  | [d] => { results := [.lit (.bool false)], args := [d] }
  | _ => none }
def FnParseLeastWrongFalsely : Prop := fnParseLeastRow.holds Try.pinned (OpenSpec.ofChange fnParseLeastWrong)

/- THE SECOND FORM. 'bulk': how many values and letters a reading holds, each counted each time it is reached (what is shared counts as often as it is met; a slice's spare places count too). A statement '..UptoSaid' is the law's where the arguments, and the package variables that the reading takes, are together of bulk at most 1048576: NARROWER than '..Said'. Prove '..Said' where nothing that the law and all that it calls make is longer than what came in: it says more and counts as full. Else prove '..UptoSaid'. A law counts once. -/
mutual
def uptoBulk {H : Type} : DataW H → Nat
  | .lit (.string bytes) => bytes.length + 1
  | .lit _ => 1
  | .nil => 1
  | .ptr d => uptoBulk d + 1
  | .slice elems spare => uptoBulkAll elems + uptoBulkAll spare + 1
  | .agg parts => uptoBulkAll parts + 1
  | .iface _ d => uptoBulk d + 1
  | .map entries => uptoBulkEntries entries + 1
  | .held _ => 1
def uptoBulkAll {H : Type} : List (DataW H) → Nat
  | [] => 0
  | d :: r => uptoBulk d + uptoBulkAll r
def uptoBulkEntries {H : Type} : List (Lit × DataW H) → Nat
  | [] => 0
  | x :: r => uptoBulkEntry x + uptoBulkEntries r
def uptoBulkEntry {H : Type} : Lit × DataW H → Nat
  | (.string bytes, d) => bytes.length + uptoBulk d + 1
  | (_, d) => uptoBulk d + 1
 end
def uptoSmall : (H : Type) → List (DataW H) → Bool := fun _ ds => decide (uptoBulkAll ds ≤ 1048576)
def OpenSpec.upto (s : _root_.Go.ChangeSpec) : _root_.Go.OpenSpec := { _root_.Go.OpenSpec.ofChange s with cond := some uptoSmall }

/-- 'laws.FnMatch', WHERE WHAT IT READS IS OF BULK AT MOST 1048576: true; the input reads as it did. -/
def fnMatchUptoRow : OpenClaim := { program := "ytjnlgefflphidaa", sum := "9eee78ba8dedde2fbca23dcacd221f94868799c2778c105542faf3ad379055dc", func := "loop.example/compressionlab/laws.FnMatch", spec := "fnMatch", apart := false, narrowed := true }
def FnMatchUptoSaid : Prop := fnMatchUptoRow.holds Try.pinned (OpenSpec.upto fnMatchSpec)

/-- 'laws.FnMatchLongest', WHERE WHAT IT READS IS OF BULK AT MOST 1048576: true; the input reads as it did. -/
def fnMatchLongestUptoRow : OpenClaim := { program := "ytjnlgefflphidaa", sum := "9eee78ba8dedde2fbca23dcacd221f94868799c2778c105542faf3ad379055dc", func := "loop.example/compressionlab/laws.FnMatchLongest", spec := "fnMatchLongest", apart := false, narrowed := true }
def FnMatchLongestUptoSaid : Prop := fnMatchLongestUptoRow.holds Try.pinned (OpenSpec.upto fnMatchLongestSpec)

/-- 'laws.FnParseMore', WHERE WHAT IT READS IS OF BULK AT MOST 1048576: true; the input reads as it did. -/
def fnParseMoreUptoRow : OpenClaim := { program := "ytjnlgefflphidaa", sum := "9eee78ba8dedde2fbca23dcacd221f94868799c2778c105542faf3ad379055dc", func := "loop.example/compressionlab/laws.FnParseMore", spec := "fnParseMore", apart := false, narrowed := true }
def FnParseMoreUptoSaid : Prop := fnParseMoreUptoRow.holds Try.pinned (OpenSpec.upto fnParseMoreSpec)

/-- 'laws.FnParseRun', WHERE WHAT IT READS IS OF BULK AT MOST 1048576: true; the input reads as it did. -/
def fnParseRunUptoRow : OpenClaim := { program := "ytjnlgefflphidaa", sum := "9eee78ba8dedde2fbca23dcacd221f94868799c2778c105542faf3ad379055dc", func := "loop.example/compressionlab/laws.FnParseRun", spec := "fnParseRun", apart := false, narrowed := true }
def FnParseRunUptoSaid : Prop := fnParseRunUptoRow.holds Try.pinned (OpenSpec.upto fnParseRunSpec)

/-- 'laws.FnParseTwo', WHERE WHAT IT READS IS OF BULK AT MOST 1048576: true; the input reads as it did. -/
def fnParseTwoUptoRow : OpenClaim := { program := "ytjnlgefflphidaa", sum := "9eee78ba8dedde2fbca23dcacd221f94868799c2778c105542faf3ad379055dc", func := "loop.example/compressionlab/laws.FnParseTwo", spec := "fnParseTwo", apart := false, narrowed := true }
def FnParseTwoUptoSaid : Prop := fnParseTwoUptoRow.holds Try.pinned (OpenSpec.upto fnParseTwoSpec)

/-- 'laws.FnGreedyFirst', WHERE WHAT IT READS IS OF BULK AT MOST 1048576: true; the input reads as it did. -/
def fnGreedyFirstUptoRow : OpenClaim := { program := "ytjnlgefflphidaa", sum := "9eee78ba8dedde2fbca23dcacd221f94868799c2778c105542faf3ad379055dc", func := "loop.example/compressionlab/laws.FnGreedyFirst", spec := "fnGreedyFirst", apart := false, narrowed := true }
def FnGreedyFirstUptoSaid : Prop := fnGreedyFirstUptoRow.holds Try.pinned (OpenSpec.upto fnGreedyFirstSpec)

/-- 'laws.FnMatchNone', WHERE WHAT IT READS IS OF BULK AT MOST 1048576: true; the input reads as it did. -/
def fnMatchNoneUptoRow : OpenClaim := { program := "ytjnlgefflphidaa", sum := "9eee78ba8dedde2fbca23dcacd221f94868799c2778c105542faf3ad379055dc", func := "loop.example/compressionlab/laws.FnMatchNone", spec := "fnMatchNone", apart := false, narrowed := true }
def FnMatchNoneUptoSaid : Prop := fnMatchNoneUptoRow.holds Try.pinned (OpenSpec.upto fnMatchNoneSpec)

/-- 'laws.FnParseShort', WHERE WHAT IT READS IS OF BULK AT MOST 1048576: true; the input reads as it did. -/
def fnParseShortUptoRow : OpenClaim := { program := "ytjnlgefflphidaa", sum := "9eee78ba8dedde2fbca23dcacd221f94868799c2778c105542faf3ad379055dc", func := "loop.example/compressionlab/laws.FnParseShort", spec := "fnParseShort", apart := false, narrowed := true }
def FnParseShortUptoSaid : Prop := fnParseShortUptoRow.holds Try.pinned (OpenSpec.upto fnParseShortSpec)

/-- 'laws.FnExpandBegin', WHERE WHAT IT READS IS OF BULK AT MOST 1048576: true; the input reads as it did. -/
def fnExpandBeginUptoRow : OpenClaim := { program := "ytjnlgefflphidaa", sum := "9eee78ba8dedde2fbca23dcacd221f94868799c2778c105542faf3ad379055dc", func := "loop.example/compressionlab/laws.FnExpandBegin", spec := "fnExpandBegin", apart := false, narrowed := true }
def FnExpandBeginUptoSaid : Prop := fnExpandBeginUptoRow.holds Try.pinned (OpenSpec.upto fnExpandBeginSpec)

/-- 'laws.FnExpand', WHERE WHAT IT READS IS OF BULK AT MOST 1048576: true; the input reads as it did. -/
def fnExpandUptoRow : OpenClaim := { program := "ytjnlgefflphidaa", sum := "9eee78ba8dedde2fbca23dcacd221f94868799c2778c105542faf3ad379055dc", func := "loop.example/compressionlab/laws.FnExpand", spec := "fnExpand", apart := false, narrowed := true }
def FnExpandUptoSaid : Prop := fnExpandUptoRow.holds Try.pinned (OpenSpec.upto fnExpandSpec)

/-- 'laws.FnGreedy', WHERE WHAT IT READS IS OF BULK AT MOST 1048576: true; the input reads as it did. -/
def fnGreedyUptoRow : OpenClaim := { program := "ytjnlgefflphidaa", sum := "9eee78ba8dedde2fbca23dcacd221f94868799c2778c105542faf3ad379055dc", func := "loop.example/compressionlab/laws.FnGreedy", spec := "fnGreedy", apart := false, narrowed := true }
def FnGreedyUptoSaid : Prop := fnGreedyUptoRow.holds Try.pinned (OpenSpec.upto fnGreedySpec)

/-- 'laws.FnTokensLongest', WHERE WHAT IT READS IS OF BULK AT MOST 1048576: true; the input reads as it did. -/
def fnTokensLongestUptoRow : OpenClaim := { program := "ytjnlgefflphidaa", sum := "9eee78ba8dedde2fbca23dcacd221f94868799c2778c105542faf3ad379055dc", func := "loop.example/compressionlab/laws.FnTokensLongest", spec := "fnTokensLongest", apart := false, narrowed := true }
def FnTokensLongestUptoSaid : Prop := fnTokensLongestUptoRow.holds Try.pinned (OpenSpec.upto fnTokensLongestSpec)

/-- 'laws.FnParseGreedy', WHERE WHAT IT READS IS OF BULK AT MOST 1048576: true; the input reads as it did. -/
def fnParseGreedyUptoRow : OpenClaim := { program := "ytjnlgefflphidaa", sum := "9eee78ba8dedde2fbca23dcacd221f94868799c2778c105542faf3ad379055dc", func := "loop.example/compressionlab/laws.FnParseGreedy", spec := "fnParseGreedy", apart := false, narrowed := true }
def FnParseGreedyUptoSaid : Prop := fnParseGreedyUptoRow.holds Try.pinned (OpenSpec.upto fnParseGreedySpec)

/-- 'laws.FnTokensCost', WHERE WHAT IT READS IS OF BULK AT MOST 1048576: true; the input reads as it did. -/
def fnTokensCostUptoRow : OpenClaim := { program := "ytjnlgefflphidaa", sum := "9eee78ba8dedde2fbca23dcacd221f94868799c2778c105542faf3ad379055dc", func := "loop.example/compressionlab/laws.FnTokensCost", spec := "fnTokensCost", apart := false, narrowed := true }
def FnTokensCostUptoSaid : Prop := fnTokensCostUptoRow.holds Try.pinned (OpenSpec.upto fnTokensCostSpec)

/-- 'laws.FnExpandRun', WHERE WHAT IT READS IS OF BULK AT MOST 1048576: true; the input reads as it did. -/
def fnExpandRunUptoRow : OpenClaim := { program := "ytjnlgefflphidaa", sum := "9eee78ba8dedde2fbca23dcacd221f94868799c2778c105542faf3ad379055dc", func := "loop.example/compressionlab/laws.FnExpandRun", spec := "fnExpandRun", apart := false, narrowed := true }
def FnExpandRunUptoSaid : Prop := fnExpandRunUptoRow.holds Try.pinned (OpenSpec.upto fnExpandRunSpec)

/-- 'laws.FnParseBest', WHERE WHAT IT READS IS OF BULK AT MOST 1048576: true; the input reads as it did. -/
def fnParseBestUptoRow : OpenClaim := { program := "ytjnlgefflphidaa", sum := "9eee78ba8dedde2fbca23dcacd221f94868799c2778c105542faf3ad379055dc", func := "loop.example/compressionlab/laws.FnParseBest", spec := "fnParseBest", apart := false, narrowed := true }
def FnParseBestUptoSaid : Prop := fnParseBestUptoRow.holds Try.pinned (OpenSpec.upto fnParseBestSpec)

/-- 'laws.FnParseLeast', WHERE WHAT IT READS IS OF BULK AT MOST 1048576: true; the input reads as it did. -/
def fnParseLeastUptoRow : OpenClaim := { program := "ytjnlgefflphidaa", sum := "9eee78ba8dedde2fbca23dcacd221f94868799c2778c105542faf3ad379055dc", func := "loop.example/compressionlab/laws.FnParseLeast", spec := "fnParseLeast", apart := false, narrowed := true }
def FnParseLeastUptoSaid : Prop := fnParseLeastUptoRow.holds Try.pinned (OpenSpec.upto fnParseLeastSpec)

end Rows
end Go.Proofs.Ytjnlgefflphidaa
