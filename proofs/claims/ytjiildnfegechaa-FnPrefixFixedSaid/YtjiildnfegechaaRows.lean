/-
  No cell of these rows narrows 'for every input' (looked for: loops, veiled, ifaces, maps, wideKeys, modest, calm, conditions, laid).
  DERIVED. THE GIVEN ROWS OF THIS SEAT. 10 by the template 'for every input the law returns true; each argument reads behind the call as it read before'; 0 by the template 'total and deterministic' (their statements: YtjiildnfegechaaTotals.lean).
  GIVEN WITH THE SEED: the statements are not yours to turn. If you find one false, say at which input.
  Laid BY PROGRAM, IN A SANDBOX (cutbox-rows.mjs): the forced cells as the released guide's own fill.sh prints them over the translation 45039704b9468001… (all of the seat's roots in one cut). By AI agents, Wed Nov 11 2026. No macro, syntax, notation, axiom, sorry.
-/
import Derived.Test.YtjiildnfegechaaChecked
import GoSem.Claim
import GoSem.ClaimJoined
import GoSem.ClaimMapViews
import Derived.JoinedTies
import Derived.KernelRfl
namespace Go.Proofs.Ytjiildnfegechaa
/- THE CELL 'sum', in the pinned program and in every row, IS THE sha256 OF THE DUMP (.gsa) THAT YtjiildnfegechaaProg.lean LOADS. Nothing in Lean hashes anything: it is a label: what it is worth is what the hold of that sum in a sandbox is worth. -/
noncomputable def Try.pinned : Pinned := { name := "ytjiildnfegechaa", sum := "45039704b9468001e423252c2e8849eecbe3ea74a1a012f588a7ce3ed2e435b6", checked := Try.checked }
namespace Rows
def none {H : Type} : Left H := { results := [], args := [] }

/-- 'laws.FnExactLengthsOf': WHATEVER THE INPUT: true; the input reads as it did. -/
def fnExactLengthsOfSpec : ChangeSpec := { name := "fnExactLengthsOf", fn := fun _ => fun
  | [d] => { results := [.lit (.bool true)], args := [d] }
  | _ => none }
def fnExactLengthsOfRow : OpenClaim := { program := "ytjiildnfegechaa", sum := "45039704b9468001e423252c2e8849eecbe3ea74a1a012f588a7ce3ed2e435b6", func := "loop.example/compressionlab/laws.FnExactLengthsOf", spec := "fnExactLengthsOf", unfollowed := true, recurses := true, apart := false }
def FnExactLengthsOfSaid : Prop := fnExactLengthsOfRow.holds Try.pinned (OpenSpec.ofChange fnExactLengthsOfSpec)

/-- ITS FALSE NEIGHBOUR: 'it returns false'. Refute it at one input. -/
def fnExactLengthsOfWrong : ChangeSpec := { name := "fnExactLengthsOf", fn := fun _ => fun
  | [d] => { results := [.lit (.bool false)], args := [d] }
  | _ => none }
def FnExactLengthsOfWrongFalsely : Prop := fnExactLengthsOfRow.holds Try.pinned (OpenSpec.ofChange fnExactLengthsOfWrong)

/-- 'laws.FnLengthsOrder': WHATEVER THE INPUT: true; the input reads as it did. -/
def fnLengthsOrderSpec : ChangeSpec := { name := "fnLengthsOrder", fn := fun _ => fun
  | [d] => { results := [.lit (.bool true)], args := [d] }
  | _ => none }
def fnLengthsOrderRow : OpenClaim := { program := "ytjiildnfegechaa", sum := "45039704b9468001e423252c2e8849eecbe3ea74a1a012f588a7ce3ed2e435b6", func := "loop.example/compressionlab/laws.FnLengthsOrder", spec := "fnLengthsOrder", unfollowed := true, recurses := true, apart := false }
def FnLengthsOrderSaid : Prop := fnLengthsOrderRow.holds Try.pinned (OpenSpec.ofChange fnLengthsOrderSpec)

/-- ITS FALSE NEIGHBOUR: 'it returns false'. Refute it at one input. -/
def fnLengthsOrderWrong : ChangeSpec := { name := "fnLengthsOrder", fn := fun _ => fun
  | [d] => { results := [.lit (.bool false)], args := [d] }
  | _ => none }
def FnLengthsOrderWrongFalsely : Prop := fnLengthsOrderRow.holds Try.pinned (OpenSpec.ofChange fnLengthsOrderWrong)

/-- 'laws.FnLengthsScaled': WHATEVER THE INPUT: true; the input reads as it did. -/
def fnLengthsScaledSpec : ChangeSpec := { name := "fnLengthsScaled", fn := fun _ => fun
  | [d] => { results := [.lit (.bool true)], args := [d] }
  | _ => none }
def fnLengthsScaledRow : OpenClaim := { program := "ytjiildnfegechaa", sum := "45039704b9468001e423252c2e8849eecbe3ea74a1a012f588a7ce3ed2e435b6", func := "loop.example/compressionlab/laws.FnLengthsScaled", spec := "fnLengthsScaled", unfollowed := true, recurses := true, apart := false }
def FnLengthsScaledSaid : Prop := fnLengthsScaledRow.holds Try.pinned (OpenSpec.ofChange fnLengthsScaledSpec)

/-- ITS FALSE NEIGHBOUR: 'it returns false'. Refute it at one input. -/
def fnLengthsScaledWrong : ChangeSpec := { name := "fnLengthsScaled", fn := fun _ => fun
  | [d] => { results := [.lit (.bool false)], args := [d] }
  | _ => none }
def FnLengthsScaledWrongFalsely : Prop := fnLengthsScaledRow.holds Try.pinned (OpenSpec.ofChange fnLengthsScaledWrong)

/-- 'laws.FnLengthsTwo': WHATEVER THE INPUT: true; the input reads as it did. -/
def fnLengthsTwoSpec : ChangeSpec := { name := "fnLengthsTwo", fn := fun _ => fun
  | [d1, d2] => { results := [.lit (.bool true)], args := [d1, d2] }
  | _ => none }
def fnLengthsTwoRow : OpenClaim := { program := "ytjiildnfegechaa", sum := "45039704b9468001e423252c2e8849eecbe3ea74a1a012f588a7ce3ed2e435b6", func := "loop.example/compressionlab/laws.FnLengthsTwo", spec := "fnLengthsTwo", unfollowed := true, recurses := true, apart := false }
def FnLengthsTwoSaid : Prop := fnLengthsTwoRow.holds Try.pinned (OpenSpec.ofChange fnLengthsTwoSpec)

/-- ITS FALSE NEIGHBOUR: 'it returns false'. Refute it at one input. -/
def fnLengthsTwoWrong : ChangeSpec := { name := "fnLengthsTwo", fn := fun _ => fun
  | [d1, d2] => { results := [.lit (.bool false)], args := [d1, d2] }
  | _ => none }
def FnLengthsTwoWrongFalsely : Prop := fnLengthsTwoRow.holds Try.pinned (OpenSpec.ofChange fnLengthsTwoWrong)

/-- 'laws.FnKraft': WHATEVER THE INPUT: true; the input reads as it did. -/
def fnKraftSpec : ChangeSpec := { name := "fnKraft", fn := fun _ => fun
  | [d] => { results := [.lit (.bool true)], args := [d] }
  | _ => none }
def fnKraftRow : OpenClaim := { program := "ytjiildnfegechaa", sum := "45039704b9468001e423252c2e8849eecbe3ea74a1a012f588a7ce3ed2e435b6", func := "loop.example/compressionlab/laws.FnKraft", spec := "fnKraft", unfollowed := true, recurses := true, apart := false }
def FnKraftSaid : Prop := fnKraftRow.holds Try.pinned (OpenSpec.ofChange fnKraftSpec)

/-- ITS FALSE NEIGHBOUR: 'it returns false'. Refute it at one input. -/
def fnKraftWrong : ChangeSpec := { name := "fnKraft", fn := fun _ => fun
  | [d] => { results := [.lit (.bool false)], args := [d] }
  | _ => none }
def FnKraftWrongFalsely : Prop := fnKraftRow.holds Try.pinned (OpenSpec.ofChange fnKraftWrong)

/-- 'laws.FnLengthsBest': WHATEVER THE INPUT: true; the input reads as it did. -/
def fnLengthsBestSpec : ChangeSpec := { name := "fnLengthsBest", fn := fun _ => fun
  | [d] => { results := [.lit (.bool true)], args := [d] }
  | _ => none }
def fnLengthsBestRow : OpenClaim := { program := "ytjiildnfegechaa", sum := "45039704b9468001e423252c2e8849eecbe3ea74a1a012f588a7ce3ed2e435b6", func := "loop.example/compressionlab/laws.FnLengthsBest", spec := "fnLengthsBest", unfollowed := true, recurses := true, apart := false }
def FnLengthsBestSaid : Prop := fnLengthsBestRow.holds Try.pinned (OpenSpec.ofChange fnLengthsBestSpec)

/-- ITS FALSE NEIGHBOUR: 'it returns false'. Refute it at one input. -/
def fnLengthsBestWrong : ChangeSpec := { name := "fnLengthsBest", fn := fun _ => fun
  | [d] => { results := [.lit (.bool false)], args := [d] }
  | _ => none }
def FnLengthsBestWrongFalsely : Prop := fnLengthsBestRow.holds Try.pinned (OpenSpec.ofChange fnLengthsBestWrong)

/-- 'laws.FnExactPrefixBits': WHATEVER THE INPUT: true; the input reads as it did. -/
def fnExactPrefixBitsSpec : ChangeSpec := { name := "fnExactPrefixBits", fn := fun _ => fun
  | [d] => { results := [.lit (.bool true)], args := [d] }
  | _ => none }
def fnExactPrefixBitsRow : OpenClaim := { program := "ytjiildnfegechaa", sum := "45039704b9468001e423252c2e8849eecbe3ea74a1a012f588a7ce3ed2e435b6", func := "loop.example/compressionlab/laws.FnExactPrefixBits", spec := "fnExactPrefixBits", unfollowed := true, recurses := true, apart := false }
def FnExactPrefixBitsSaid : Prop := fnExactPrefixBitsRow.holds Try.pinned (OpenSpec.ofChange fnExactPrefixBitsSpec)

/-- ITS FALSE NEIGHBOUR: 'it returns false'. Refute it at one input. -/
def fnExactPrefixBitsWrong : ChangeSpec := { name := "fnExactPrefixBits", fn := fun _ => fun
  | [d] => { results := [.lit (.bool false)], args := [d] }
  | _ => none }
def FnExactPrefixBitsWrongFalsely : Prop := fnExactPrefixBitsRow.holds Try.pinned (OpenSpec.ofChange fnExactPrefixBitsWrong)

/-- 'laws.FnPrefixBits': WHATEVER THE INPUT: true; the input reads as it did. -/
def fnPrefixBitsSpec : ChangeSpec := { name := "fnPrefixBits", fn := fun _ => fun
  | [d] => { results := [.lit (.bool true)], args := [d] }
  | _ => none }
def fnPrefixBitsRow : OpenClaim := { program := "ytjiildnfegechaa", sum := "45039704b9468001e423252c2e8849eecbe3ea74a1a012f588a7ce3ed2e435b6", func := "loop.example/compressionlab/laws.FnPrefixBits", spec := "fnPrefixBits", unfollowed := true, recurses := true, apart := false }
def FnPrefixBitsSaid : Prop := fnPrefixBitsRow.holds Try.pinned (OpenSpec.ofChange fnPrefixBitsSpec)

/-- ITS FALSE NEIGHBOUR: 'it returns false'. Refute it at one input. -/
def fnPrefixBitsWrong : ChangeSpec := { name := "fnPrefixBits", fn := fun _ => fun
  | [d] => { results := [.lit (.bool false)], args := [d] }
  | _ => none }
def FnPrefixBitsWrongFalsely : Prop := fnPrefixBitsRow.holds Try.pinned (OpenSpec.ofChange fnPrefixBitsWrong)

/-- 'laws.FnPrefixBitsMore': WHATEVER THE INPUT: true; the input reads as it did. -/
def fnPrefixBitsMoreSpec : ChangeSpec := { name := "fnPrefixBitsMore", fn := fun _ => fun
  | [d] => { results := [.lit (.bool true)], args := [d] }
  | _ => none }
def fnPrefixBitsMoreRow : OpenClaim := { program := "ytjiildnfegechaa", sum := "45039704b9468001e423252c2e8849eecbe3ea74a1a012f588a7ce3ed2e435b6", func := "loop.example/compressionlab/laws.FnPrefixBitsMore", spec := "fnPrefixBitsMore", unfollowed := true, recurses := true, apart := false }
def FnPrefixBitsMoreSaid : Prop := fnPrefixBitsMoreRow.holds Try.pinned (OpenSpec.ofChange fnPrefixBitsMoreSpec)

/-- ITS FALSE NEIGHBOUR: 'it returns false'. Refute it at one input. -/
def fnPrefixBitsMoreWrong : ChangeSpec := { name := "fnPrefixBitsMore", fn := fun _ => fun
  | [d] => { results := [.lit (.bool false)], args := [d] }
  | _ => none }
def FnPrefixBitsMoreWrongFalsely : Prop := fnPrefixBitsMoreRow.holds Try.pinned (OpenSpec.ofChange fnPrefixBitsMoreWrong)

/-- 'laws.FnPrefixFixed': WHATEVER THE INPUT: true; the input reads as it did. -/
def fnPrefixFixedSpec : ChangeSpec := { name := "fnPrefixFixed", fn := fun _ => fun
  | [d] => { results := [.lit (.bool true)], args := [d] }
  | _ => none }
def fnPrefixFixedRow : OpenClaim := { program := "ytjiildnfegechaa", sum := "45039704b9468001e423252c2e8849eecbe3ea74a1a012f588a7ce3ed2e435b6", func := "loop.example/compressionlab/laws.FnPrefixFixed", spec := "fnPrefixFixed", unfollowed := true, recurses := true, apart := false }
def FnPrefixFixedSaid : Prop := fnPrefixFixedRow.holds Try.pinned (OpenSpec.ofChange fnPrefixFixedSpec)

/-- ITS FALSE NEIGHBOUR: 'it returns false'. Refute it at one input. -/
def fnPrefixFixedWrong : ChangeSpec := { name := "fnPrefixFixed", fn := fun _ => fun
  | [d] => { results := [.lit (.bool false)], args := [d] }
  | _ => none }
def FnPrefixFixedWrongFalsely : Prop := fnPrefixFixedRow.holds Try.pinned (OpenSpec.ofChange fnPrefixFixedWrong)

/- THE SECOND FORM. 'bulk': how many values and letters a reading holds, each counted each time it is reached (what is shared counts as often as it is met; a slice's spare places count too). A statement '..UptoSaid' is the law's where the arguments, and the package variables that the reading takes, are together of bulk at most 1048576: NARROWER than '..Said'. Prove '..Said' where nothing that the law and all that it calls make is longer than what came in: it says more and counts as full. Else prove '..UptoSaid'. A law counts once. -/
mutual
def uptoBulk {H : Type} : DataW H → Nat
  | .lit (.string bytes) => bytes.length + 1
  | .lit _ => 1
  | .nil => 1
  | .ptr d => uptoBulk d + 1
  | .slice elems spare => uptoBulkAll elems + uptoBulkAll spare + 1
  | .agg parts => uptoBulkAll parts + 1
  | .iface _ d => uptoBulk d + 1
  | .map entries => uptoBulkEntries entries + 1
  | .held _ => 1
def uptoBulkAll {H : Type} : List (DataW H) → Nat
  | [] => 0
  | d :: r => uptoBulk d + uptoBulkAll r
def uptoBulkEntries {H : Type} : List (Lit × DataW H) → Nat
  | [] => 0
  | x :: r => uptoBulkEntry x + uptoBulkEntries r
def uptoBulkEntry {H : Type} : Lit × DataW H → Nat
  | (.string bytes, d) => bytes.length + uptoBulk d + 1
  | (_, d) => uptoBulk d + 1
 end
def uptoSmall : (H : Type) → List (DataW H) → Bool := fun _ ds => decide (uptoBulkAll ds ≤ 1048576)
def OpenSpec.upto (s : _root_.Go.ChangeSpec) : _root_.Go.OpenSpec := { _root_.Go.OpenSpec.ofChange s with cond := some uptoSmall }

/-- 'laws.FnExactLengthsOf', WHERE WHAT IT READS IS OF BULK AT MOST 1048576: true; the input reads as it did. -/
def fnExactLengthsOfUptoRow : OpenClaim := { program := "ytjiildnfegechaa", sum := "45039704b9468001e423252c2e8849eecbe3ea74a1a012f588a7ce3ed2e435b6", func := "loop.example/compressionlab/laws.FnExactLengthsOf", spec := "fnExactLengthsOf", unfollowed := true, recurses := true, apart := false, narrowed := true }
def FnExactLengthsOfUptoSaid : Prop := fnExactLengthsOfUptoRow.holds Try.pinned (OpenSpec.upto fnExactLengthsOfSpec)

/-- 'laws.FnLengthsOrder', WHERE WHAT IT READS IS OF BULK AT MOST 1048576: true; the input reads as it did. -/
def fnLengthsOrderUptoRow : OpenClaim := { program := "ytjiildnfegechaa", sum := "45039704b9468001e423252c2e8849eecbe3ea74a1a012f588a7ce3ed2e435b6", func := "loop.example/compressionlab/laws.FnLengthsOrder", spec := "fnLengthsOrder", unfollowed := true, recurses := true, apart := false, narrowed := true }
def FnLengthsOrderUptoSaid : Prop := fnLengthsOrderUptoRow.holds Try.pinned (OpenSpec.upto fnLengthsOrderSpec)

/-- 'laws.FnLengthsScaled', WHERE WHAT IT READS IS OF BULK AT MOST 1048576: true; the input reads as it did. -/
def fnLengthsScaledUptoRow : OpenClaim := { program := "ytjiildnfegechaa", sum := "45039704b9468001e423252c2e8849eecbe3ea74a1a012f588a7ce3ed2e435b6", func := "loop.example/compressionlab/laws.FnLengthsScaled", spec := "fnLengthsScaled", unfollowed := true, recurses := true, apart := false, narrowed := true }
def FnLengthsScaledUptoSaid : Prop := fnLengthsScaledUptoRow.holds Try.pinned (OpenSpec.upto fnLengthsScaledSpec)

/-- 'laws.FnLengthsTwo', WHERE WHAT IT READS IS OF BULK AT MOST 1048576: true; the input reads as it did. -/
def fnLengthsTwoUptoRow : OpenClaim := { program := "ytjiildnfegechaa", sum := "45039704b9468001e423252c2e8849eecbe3ea74a1a012f588a7ce3ed2e435b6", func := "loop.example/compressionlab/laws.FnLengthsTwo", spec := "fnLengthsTwo", unfollowed := true, recurses := true, apart := false, narrowed := true }
def FnLengthsTwoUptoSaid : Prop := fnLengthsTwoUptoRow.holds Try.pinned (OpenSpec.upto fnLengthsTwoSpec)

/-- 'laws.FnKraft', WHERE WHAT IT READS IS OF BULK AT MOST 1048576: true; the input reads as it did. -/
def fnKraftUptoRow : OpenClaim := { program := "ytjiildnfegechaa", sum := "45039704b9468001e423252c2e8849eecbe3ea74a1a012f588a7ce3ed2e435b6", func := "loop.example/compressionlab/laws.FnKraft", spec := "fnKraft", unfollowed := true, recurses := true, apart := false, narrowed := true }
def FnKraftUptoSaid : Prop := fnKraftUptoRow.holds Try.pinned (OpenSpec.upto fnKraftSpec)

/-- 'laws.FnLengthsBest', WHERE WHAT IT READS IS OF BULK AT MOST 1048576: true; the input reads as it did. -/
def fnLengthsBestUptoRow : OpenClaim := { program := "ytjiildnfegechaa", sum := "45039704b9468001e423252c2e8849eecbe3ea74a1a012f588a7ce3ed2e435b6", func := "loop.example/compressionlab/laws.FnLengthsBest", spec := "fnLengthsBest", unfollowed := true, recurses := true, apart := false, narrowed := true }
def FnLengthsBestUptoSaid : Prop := fnLengthsBestUptoRow.holds Try.pinned (OpenSpec.upto fnLengthsBestSpec)

/-- 'laws.FnExactPrefixBits', WHERE WHAT IT READS IS OF BULK AT MOST 1048576: true; the input reads as it did. -/
def fnExactPrefixBitsUptoRow : OpenClaim := { program := "ytjiildnfegechaa", sum := "45039704b9468001e423252c2e8849eecbe3ea74a1a012f588a7ce3ed2e435b6", func := "loop.example/compressionlab/laws.FnExactPrefixBits", spec := "fnExactPrefixBits", unfollowed := true, recurses := true, apart := false, narrowed := true }
def FnExactPrefixBitsUptoSaid : Prop := fnExactPrefixBitsUptoRow.holds Try.pinned (OpenSpec.upto fnExactPrefixBitsSpec)

/-- 'laws.FnPrefixBits', WHERE WHAT IT READS IS OF BULK AT MOST 1048576: true; the input reads as it did. -/
def fnPrefixBitsUptoRow : OpenClaim := { program := "ytjiildnfegechaa", sum := "45039704b9468001e423252c2e8849eecbe3ea74a1a012f588a7ce3ed2e435b6", func := "loop.example/compressionlab/laws.FnPrefixBits", spec := "fnPrefixBits", unfollowed := true, recurses := true, apart := false, narrowed := true }
def FnPrefixBitsUptoSaid : Prop := fnPrefixBitsUptoRow.holds Try.pinned (OpenSpec.upto fnPrefixBitsSpec)

/-- 'laws.FnPrefixBitsMore', WHERE WHAT IT READS IS OF BULK AT MOST 1048576: true; the input reads as it did. -/
def fnPrefixBitsMoreUptoRow : OpenClaim := { program := "ytjiildnfegechaa", sum := "45039704b9468001e423252c2e8849eecbe3ea74a1a012f588a7ce3ed2e435b6", func := "loop.example/compressionlab/laws.FnPrefixBitsMore", spec := "fnPrefixBitsMore", unfollowed := true, recurses := true, apart := false, narrowed := true }
def FnPrefixBitsMoreUptoSaid : Prop := fnPrefixBitsMoreUptoRow.holds Try.pinned (OpenSpec.upto fnPrefixBitsMoreSpec)

/-- 'laws.FnPrefixFixed', WHERE WHAT IT READS IS OF BULK AT MOST 1048576: true; the input reads as it did. -/
def fnPrefixFixedUptoRow : OpenClaim := { program := "ytjiildnfegechaa", sum := "45039704b9468001e423252c2e8849eecbe3ea74a1a012f588a7ce3ed2e435b6", func := "loop.example/compressionlab/laws.FnPrefixFixed", spec := "fnPrefixFixed", unfollowed := true, recurses := true, apart := false, narrowed := true }
def FnPrefixFixedUptoSaid : Prop := fnPrefixFixedUptoRow.holds Try.pinned (OpenSpec.upto fnPrefixFixedSpec)

end Rows
end Go.Proofs.Ytjiildnfegechaa
