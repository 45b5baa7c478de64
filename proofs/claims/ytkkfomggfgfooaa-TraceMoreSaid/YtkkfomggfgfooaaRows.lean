/-
  No cell of these rows narrows 'for every input' (looked for: loops, veiled, ifaces, maps, wideKeys, modest, calm, conditions, laid).
  DERIVED. THE GIVEN ROWS OF THIS SEAT. 8 by the template 'for every input the law returns true; each argument reads behind the call as it read before'; 0 by the template 'total and deterministic' (their statements: YtkkfomggfgfooaaTotals.lean).
  GIVEN WITH THE SEED: the statements are not yours to turn. If you find one false, say at which input.
  Laid BY PROGRAM, IN A SANDBOX (cutbox-rows.mjs): the forced cells as the released guide's own fill.sh prints them over the translation 44faf48c7f23b1f0… (all of the seat's roots in one cut). By AI agents, Wed Nov 11 2026. No macro, syntax, notation, axiom, sorry.
-/
import Derived.Test.YtkkfomggfgfooaaChecked
import GoSem.Claim
import GoSem.ClaimJoined
import GoSem.ClaimMapViews
import Derived.JoinedTies
import Derived.KernelRfl
namespace Go.Proofs.Ytkkfomggfgfooaa
/- THE CELL 'sum', in the pinned program and in every row, IS THE sha256 OF THE DUMP (.gsa) THAT YtkkfomggfgfooaaProg.lean LOADS. Nothing in Lean hashes anything: it is a label: what it is worth is what the hold of that sum in a sandbox is worth. -/
noncomputable def Try.pinned : Pinned := { name := "ytkkfomggfgfooaa", sum := "44faf48c7f23b1f008f34e8fb8ac05e0de93216ead2f15f43a80a70480b39cb9", checked := Try.checked }
namespace Rows
def none {H : Type} : Left H := { results := [], args := [] }

/-- 'deadheatkeep.TracePrefix': WHATEVER THE INPUT: true; the input reads as it did. -/
def tracePrefixSpec : ChangeSpec := { name := "tracePrefix", fn := fun _ => fun
  | [d1, d2] => { results := [.lit (.bool true)], args := [d1, d2] }
  | _ => none }
def tracePrefixRow : OpenClaim := { program := "ytkkfomggfgfooaa", sum := "44faf48c7f23b1f008f34e8fb8ac05e0de93216ead2f15f43a80a70480b39cb9", func := "deadheat/deadheatkeep.TracePrefix", spec := "tracePrefix", apart := false }
def TracePrefixSaid : Prop := tracePrefixRow.holds Try.pinned (OpenSpec.ofChange tracePrefixSpec)

/-- ITS FALSE NEIGHBOUR: 'it returns false'. Refute it at one input. -/
def tracePrefixWrong : ChangeSpec := { name := "tracePrefix", fn := fun _ => fun
  | [d1, d2] => { results := [.lit (.bool false)], args := [d1, d2] }
  | _ => none }
def TracePrefixWrongFalsely : Prop := tracePrefixRow.holds Try.pinned (OpenSpec.ofChange tracePrefixWrong)

/-- 'deadheatkeep.TraceMore': WHATEVER THE INPUT: true; the input reads as it did. -/
def traceMoreSpec : ChangeSpec := { name := "traceMore", fn := fun _ => fun
  | [d1, d2, d3] => { results := [.lit (.bool true)], args := [d1, d2, d3] }
  | _ => none }
def traceMoreRow : OpenClaim := { program := "ytkkfomggfgfooaa", sum := "44faf48c7f23b1f008f34e8fb8ac05e0de93216ead2f15f43a80a70480b39cb9", func := "deadheat/deadheatkeep.TraceMore", spec := "traceMore", apart := false }
def TraceMoreSaid : Prop := traceMoreRow.holds Try.pinned (OpenSpec.ofChange traceMoreSpec)

/-- ITS FALSE NEIGHBOUR: 'it returns false'. Refute it at one input. -/
def traceMoreWrong : ChangeSpec := { name := "traceMore", fn := fun _ => fun
  | [d1, d2, d3] => { results := [.lit (.bool false)], args := [d1, d2, d3] }
  | _ => none }
def TraceMoreWrongFalsely : Prop := traceMoreRow.holds Try.pinned (OpenSpec.ofChange traceMoreWrong)

/-- 'deadheatkeep.TraceBegun': WHATEVER THE INPUT: true; the input reads as it did. -/
def traceBegunSpec : ChangeSpec := { name := "traceBegun", fn := fun _ => fun
  | [d] => { results := [.lit (.bool true)], args := [d] }
  | _ => none }
def traceBegunRow : OpenClaim := { program := "ytkkfomggfgfooaa", sum := "44faf48c7f23b1f008f34e8fb8ac05e0de93216ead2f15f43a80a70480b39cb9", func := "deadheat/deadheatkeep.TraceBegun", spec := "traceBegun", apart := false }
def TraceBegunSaid : Prop := traceBegunRow.holds Try.pinned (OpenSpec.ofChange traceBegunSpec)

/-- ITS FALSE NEIGHBOUR: 'it returns false'. Refute it at one input. -/
def traceBegunWrong : ChangeSpec := { name := "traceBegun", fn := fun _ => fun
  | [d] => { results := [.lit (.bool false)], args := [d] }
  | _ => none }
def TraceBegunWrongFalsely : Prop := traceBegunRow.holds Try.pinned (OpenSpec.ofChange traceBegunWrong)

/-- 'deadheatkeep.TraceLess': WHATEVER THE INPUT: true; the input reads as it did. -/
def traceLessSpec : ChangeSpec := { name := "traceLess", fn := fun _ => fun
  | [d1, d2] => { results := [.lit (.bool true)], args := [d1, d2] }
  | _ => none }
def traceLessRow : OpenClaim := { program := "ytkkfomggfgfooaa", sum := "44faf48c7f23b1f008f34e8fb8ac05e0de93216ead2f15f43a80a70480b39cb9", func := "deadheat/deadheatkeep.TraceLess", spec := "traceLess", apart := false }
def TraceLessSaid : Prop := traceLessRow.holds Try.pinned (OpenSpec.ofChange traceLessSpec)

/-- ITS FALSE NEIGHBOUR: 'it returns false'. Refute it at one input. -/
def traceLessWrong : ChangeSpec := { name := "traceLess", fn := fun _ => fun
  | [d1, d2] => { results := [.lit (.bool false)], args := [d1, d2] }
  | _ => none }
def TraceLessWrongFalsely : Prop := traceLessRow.holds Try.pinned (OpenSpec.ofChange traceLessWrong)

/-- 'deadheatkeep.TraceOwn': WHATEVER THE INPUT: true; the input reads as it did. -/
def traceOwnSpec : ChangeSpec := { name := "traceOwn", fn := fun _ => fun
  | [d] => { results := [.lit (.bool true)], args := [d] }
  | _ => none }
def traceOwnRow : OpenClaim := { program := "ytkkfomggfgfooaa", sum := "44faf48c7f23b1f008f34e8fb8ac05e0de93216ead2f15f43a80a70480b39cb9", func := "deadheat/deadheatkeep.TraceOwn", spec := "traceOwn", apart := false }
def TraceOwnSaid : Prop := traceOwnRow.holds Try.pinned (OpenSpec.ofChange traceOwnSpec)

/-- ITS FALSE NEIGHBOUR: 'it returns false'. Refute it at one input. -/
def traceOwnWrong : ChangeSpec := { name := "traceOwn", fn := fun _ => fun
  | [d] => { results := [.lit (.bool false)], args := [d] }
  | _ => none }
def TraceOwnWrongFalsely : Prop := traceOwnRow.holds Try.pinned (OpenSpec.ofChange traceOwnWrong)

/-- 'deadheatkeep.PackOne': WHATEVER THE INPUT: true; the input reads as it did. -/
def packOneSpec : ChangeSpec := { name := "packOne", fn := fun _ => fun
  | [d1, d2] => { results := [.lit (.bool true)], args := [d1, d2] }
  | _ => none }
def packOneRow : OpenClaim := { program := "ytkkfomggfgfooaa", sum := "44faf48c7f23b1f008f34e8fb8ac05e0de93216ead2f15f43a80a70480b39cb9", func := "deadheat/deadheatkeep.PackOne", spec := "packOne", apart := false }
def PackOneSaid : Prop := packOneRow.holds Try.pinned (OpenSpec.ofChange packOneSpec)

/-- ITS FALSE NEIGHBOUR: 'it returns false'. Refute it at one input. -/
def packOneWrong : ChangeSpec := { name := "packOne", fn := fun _ => fun
  | [d1, d2] => { results := [.lit (.bool false)], args := [d1, d2] }
  | _ => none }
def PackOneWrongFalsely : Prop := packOneRow.holds Try.pinned (OpenSpec.ofChange packOneWrong)

/-- 'deadheatkeep.PackBack': WHATEVER THE INPUT: true; the input reads as it did. -/
def packBackSpec : ChangeSpec := { name := "packBack", fn := fun _ => fun
  | [d1, d2] => { results := [.lit (.bool true)], args := [d1, d2] }
  | _ => none }
def packBackRow : OpenClaim := { program := "ytkkfomggfgfooaa", sum := "44faf48c7f23b1f008f34e8fb8ac05e0de93216ead2f15f43a80a70480b39cb9", func := "deadheat/deadheatkeep.PackBack", spec := "packBack", apart := false }
def PackBackSaid : Prop := packBackRow.holds Try.pinned (OpenSpec.ofChange packBackSpec)

/-- ITS FALSE NEIGHBOUR: 'it returns false'. Refute it at one input. -/
def packBackWrong : ChangeSpec := { name := "packBack", fn := fun _ => fun
  | [d1, d2] => { results := [.lit (.bool false)], args := [d1, d2] }
  | _ => none }
def PackBackWrongFalsely : Prop := packBackRow.holds Try.pinned (OpenSpec.ofChange packBackWrong)

/-- 'deadheatkeep.PackTurned': WHATEVER THE INPUT: true; the input reads as it did. -/
def packTurnedSpec : ChangeSpec := { name := "packTurned", fn := fun _ => fun
  | [d1, d2, d3, d4] => { results := [.lit (.bool true)], args := [d1, d2, d3, d4] }
  | _ => none }
def packTurnedRow : OpenClaim := { program := "ytkkfomggfgfooaa", sum := "44faf48c7f23b1f008f34e8fb8ac05e0de93216ead2f15f43a80a70480b39cb9", func := "deadheat/deadheatkeep.PackTurned", spec := "packTurned", apart := false }
def PackTurnedSaid : Prop := packTurnedRow.holds Try.pinned (OpenSpec.ofChange packTurnedSpec)

/-- ITS FALSE NEIGHBOUR: 'it returns false'. Refute it at one input. -/
def packTurnedWrong : ChangeSpec := { name := "packTurned", fn := fun _ => fun
  | [d1, d2, d3, d4] => { results := [.lit (.bool false)], args := [d1, d2, d3, d4] }
  | _ => none }
def PackTurnedWrongFalsely : Prop := packTurnedRow.holds Try.pinned (OpenSpec.ofChange packTurnedWrong)

/- THE SECOND FORM. 'bulk': how many values and letters a reading holds, each counted each time it is reached (what is shared counts as often as it is met; a slice's spare places count too). A statement '..UptoSaid' is the law's where the arguments, and the package variables that the reading takes, are together of bulk at most 1048576: NARROWER than '..Said'. Prove '..Said' where nothing that the law and all that it calls make is longer than what came in: it says more and counts as full. Else prove '..UptoSaid'. A law counts once. -/
mutual
def uptoBulk {H : Type} : DataW H → Nat
  | .lit (.string bytes) => bytes.length + 1
  | .lit _ => 1
  | .nil => 1
  | .ptr d => uptoBulk d + 1
  | .slice elems spare => uptoBulkAll elems + uptoBulkAll spare + 1
  | .agg parts => uptoBulkAll parts + 1
  | .iface _ d => uptoBulk d + 1
  | .map entries => uptoBulkEntries entries + 1
  | .held _ => 1
def uptoBulkAll {H : Type} : List (DataW H) → Nat
  | [] => 0
  | d :: r => uptoBulk d + uptoBulkAll r
def uptoBulkEntries {H : Type} : List (Lit × DataW H) → Nat
  | [] => 0
  | x :: r => uptoBulkEntry x + uptoBulkEntries r
def uptoBulkEntry {H : Type} : Lit × DataW H → Nat
  | (.string bytes, d) => bytes.length + uptoBulk d + 1
  | (_, d) => uptoBulk d + 1
 end
def uptoSmall : (H : Type) → List (DataW H) → Bool := fun _ ds => decide (uptoBulkAll ds ≤ 1048576)
def OpenSpec.upto (s : _root_.Go.ChangeSpec) : _root_.Go.OpenSpec := { _root_.Go.OpenSpec.ofChange s with cond := some uptoSmall }

/-- 'deadheatkeep.TracePrefix', WHERE WHAT IT READS IS OF BULK AT MOST 1048576: true; the input reads as it did. -/
def tracePrefixUptoRow : OpenClaim := { program := "ytkkfomggfgfooaa", sum := "44faf48c7f23b1f008f34e8fb8ac05e0de93216ead2f15f43a80a70480b39cb9", func := "deadheat/deadheatkeep.TracePrefix", spec := "tracePrefix", apart := false, narrowed := true }
def TracePrefixUptoSaid : Prop := tracePrefixUptoRow.holds Try.pinned (OpenSpec.upto tracePrefixSpec)

/-- 'deadheatkeep.TraceMore', WHERE WHAT IT READS IS OF BULK AT MOST 1048576: true; the input reads as it did. -/
def traceMoreUptoRow : OpenClaim := { program := "ytkkfomggfgfooaa", sum := "44faf48c7f23b1f008f34e8fb8ac05e0de93216ead2f15f43a80a70480b39cb9", func := "deadheat/deadheatkeep.TraceMore", spec := "traceMore", apart := false, narrowed := true }
def TraceMoreUptoSaid : Prop := traceMoreUptoRow.holds Try.pinned (OpenSpec.upto traceMoreSpec)

/-- 'deadheatkeep.TraceBegun', WHERE WHAT IT READS IS OF BULK AT MOST 1048576: true; the input reads as it did. -/
def traceBegunUptoRow : OpenClaim := { program := "ytkkfomggfgfooaa", sum := "44faf48c7f23b1f008f34e8fb8ac05e0de93216ead2f15f43a80a70480b39cb9", func := "deadheat/deadheatkeep.TraceBegun", spec := "traceBegun", apart := false, narrowed := true }
def TraceBegunUptoSaid : Prop := traceBegunUptoRow.holds Try.pinned (OpenSpec.upto traceBegunSpec)

/-- 'deadheatkeep.TraceLess', WHERE WHAT IT READS IS OF BULK AT MOST 1048576: true; the input reads as it did. -/
def traceLessUptoRow : OpenClaim := { program := "ytkkfomggfgfooaa", sum := "44faf48c7f23b1f008f34e8fb8ac05e0de93216ead2f15f43a80a70480b39cb9", func := "deadheat/deadheatkeep.TraceLess", spec := "traceLess", apart := false, narrowed := true }
def TraceLessUptoSaid : Prop := traceLessUptoRow.holds Try.pinned (OpenSpec.upto traceLessSpec)

/-- 'deadheatkeep.TraceOwn', WHERE WHAT IT READS IS OF BULK AT MOST 1048576: true; the input reads as it did. -/
def traceOwnUptoRow : OpenClaim := { program := "ytkkfomggfgfooaa", sum := "44faf48c7f23b1f008f34e8fb8ac05e0de93216ead2f15f43a80a70480b39cb9", func := "deadheat/deadheatkeep.TraceOwn", spec := "traceOwn", apart := false, narrowed := true }
def TraceOwnUptoSaid : Prop := traceOwnUptoRow.holds Try.pinned (OpenSpec.upto traceOwnSpec)

/-- 'deadheatkeep.PackOne', WHERE WHAT IT READS IS OF BULK AT MOST 1048576: true; the input reads as it did. -/
def packOneUptoRow : OpenClaim := { program := "ytkkfomggfgfooaa", sum := "44faf48c7f23b1f008f34e8fb8ac05e0de93216ead2f15f43a80a70480b39cb9", func := "deadheat/deadheatkeep.PackOne", spec := "packOne", apart := false, narrowed := true }
def PackOneUptoSaid : Prop := packOneUptoRow.holds Try.pinned (OpenSpec.upto packOneSpec)

/-- 'deadheatkeep.PackBack', WHERE WHAT IT READS IS OF BULK AT MOST 1048576: true; the input reads as it did. -/
def packBackUptoRow : OpenClaim := { program := "ytkkfomggfgfooaa", sum := "44faf48c7f23b1f008f34e8fb8ac05e0de93216ead2f15f43a80a70480b39cb9", func := "deadheat/deadheatkeep.PackBack", spec := "packBack", apart := false, narrowed := true }
def PackBackUptoSaid : Prop := packBackUptoRow.holds Try.pinned (OpenSpec.upto packBackSpec)

/-- 'deadheatkeep.PackTurned', WHERE WHAT IT READS IS OF BULK AT MOST 1048576: true; the input reads as it did. -/
def packTurnedUptoRow : OpenClaim := { program := "ytkkfomggfgfooaa", sum := "44faf48c7f23b1f008f34e8fb8ac05e0de93216ead2f15f43a80a70480b39cb9", func := "deadheat/deadheatkeep.PackTurned", spec := "packTurned", apart := false, narrowed := true }
def PackTurnedUptoSaid : Prop := packTurnedUptoRow.holds Try.pinned (OpenSpec.upto packTurnedSpec)

end Rows
end Go.Proofs.Ytkkfomggfgfooaa
