/-
  No cell of these rows narrows 'for every input' (looked for: loops, veiled, ifaces, maps, wideKeys, modest, calm, conditions, laid).
  DERIVED. THE GIVEN ROWS OF THIS SEAT. 12 by the template 'for every input the law returns true; each argument reads behind the call as it read before'; 0 by the template 'total and deterministic' (their statements: YtamjibnebofkfaaTotals.lean).
  GIVEN WITH THE SEED: the statements are not yours to turn. If you find one false, say at which input.
  Laid BY PROGRAM, IN A SANDBOX (cutbox-rows.mjs): the forced cells as the released guide's own fill.sh prints them over the translation 4ed28b9b71197fec… (all of the seat's roots in one cut). By AI agents, Wed Nov 11 2026. No macro, syntax, notation, axiom, sorry.
-/
import Derived.Test.YtamjibnebofkfaaChecked
import GoSem.Claim
import GoSem.ClaimJoined
import GoSem.ClaimMapViews
import Derived.JoinedTies
import Derived.KernelRfl
namespace Go.Proofs.Ytamjibnebofkfaa
/- THE CELL 'sum', in the pinned program and in every row, IS THE sha256 OF THE DUMP (.gsa) THAT YtamjibnebofkfaaProg.lean LOADS. Nothing in Lean hashes anything: it is a label: what it is worth is what the hold of that sum in a sandbox is worth. -/
noncomputable def Try.pinned : Pinned := { name := "ytamjibnebofkfaa", sum := "4ed28b9b71197fec7156ae06ef6bca17b1497dba2c6ae1a6ce2ccfee451bf79b", checked := Try.checked }
namespace Rows
def none {H : Type} : Left H := { results := [], args := [] }

/-- 'deadheatkeep.GuardFront': WHATEVER THE INPUT: true; the input reads as it did. -/
def guardFrontSpec : ChangeSpec := { name := "guardFront", fn := fun _ => fun
  | [d1, d2] => { results := [.lit (.bool true)], args := [d1, d2] }
  | _ => none }
def guardFrontRow : OpenClaim := { program := "ytamjibnebofkfaa", sum := "4ed28b9b71197fec7156ae06ef6bca17b1497dba2c6ae1a6ce2ccfee451bf79b", func := "deadheat/deadheatkeep.GuardFront", spec := "guardFront", unfollowed := true, recurses := true, plainKeys := false, apart := false }
def GuardFrontSaid : Prop := guardFrontRow.holds Try.pinned (OpenSpec.ofChange guardFrontSpec)

/-- ITS FALSE NEIGHBOUR: 'it returns false'. Refute it at one input. -/
def guardFrontWrong : ChangeSpec := { name := "guardFront", fn := fun _ => fun
  | [d1, d2] => { results := [.lit (.bool false)], args := [d1, d2] }
  | _ => none }
def GuardFrontWrongFalsely : Prop := guardFrontRow.holds Try.pinned (OpenSpec.ofChange guardFrontWrong)

/-- 'deadheatkeep.GuardKeeps': WHATEVER THE INPUT: true; the input reads as it did. -/
def guardKeepsSpec : ChangeSpec := { name := "guardKeeps", fn := fun _ => fun
  | [d] => { results := [.lit (.bool true)], args := [d] }
  | _ => none }
def guardKeepsRow : OpenClaim := { program := "ytamjibnebofkfaa", sum := "4ed28b9b71197fec7156ae06ef6bca17b1497dba2c6ae1a6ce2ccfee451bf79b", func := "deadheat/deadheatkeep.GuardKeeps", spec := "guardKeeps", unfollowed := true, recurses := true, plainKeys := false, apart := false }
def GuardKeepsSaid : Prop := guardKeepsRow.holds Try.pinned (OpenSpec.ofChange guardKeepsSpec)

/-- ITS FALSE NEIGHBOUR: 'it returns false'. Refute it at one input. -/
def guardKeepsWrong : ChangeSpec := { name := "guardKeeps", fn := fun _ => fun
  | [d] => { results := [.lit (.bool false)], args := [d] }
  | _ => none }
def GuardKeepsWrongFalsely : Prop := guardKeepsRow.holds Try.pinned (OpenSpec.ofChange guardKeepsWrong)

/-- 'deadheatkeep.GuardStates': WHATEVER THE INPUT: true; the input reads as it did. -/
def guardStatesSpec : ChangeSpec := { name := "guardStates", fn := fun _ => fun
  | [d] => { results := [.lit (.bool true)], args := [d] }
  | _ => none }
def guardStatesRow : OpenClaim := { program := "ytamjibnebofkfaa", sum := "4ed28b9b71197fec7156ae06ef6bca17b1497dba2c6ae1a6ce2ccfee451bf79b", func := "deadheat/deadheatkeep.GuardStates", spec := "guardStates", unfollowed := true, recurses := true, plainKeys := false, apart := false }
def GuardStatesSaid : Prop := guardStatesRow.holds Try.pinned (OpenSpec.ofChange guardStatesSpec)

/-- ITS FALSE NEIGHBOUR: 'it returns false'. Refute it at one input. -/
def guardStatesWrong : ChangeSpec := { name := "guardStates", fn := fun _ => fun
  | [d] => { results := [.lit (.bool false)], args := [d] }
  | _ => none }
def GuardStatesWrongFalsely : Prop := guardStatesRow.holds Try.pinned (OpenSpec.ofChange guardStatesWrong)

/-- 'deadheatkeep.GuardOne': WHATEVER THE INPUT: true; the input reads as it did. -/
def guardOneSpec : ChangeSpec := { name := "guardOne", fn := fun _ => fun
  | [d1, d2] => { results := [.lit (.bool true)], args := [d1, d2] }
  | _ => none }
def guardOneRow : OpenClaim := { program := "ytamjibnebofkfaa", sum := "4ed28b9b71197fec7156ae06ef6bca17b1497dba2c6ae1a6ce2ccfee451bf79b", func := "deadheat/deadheatkeep.GuardOne", spec := "guardOne", unfollowed := true, recurses := true, plainKeys := false, apart := false }
def GuardOneSaid : Prop := guardOneRow.holds Try.pinned (OpenSpec.ofChange guardOneSpec)

/-- ITS FALSE NEIGHBOUR: 'it returns false'. Refute it at one input. -/
def guardOneWrong : ChangeSpec := { name := "guardOne", fn := fun _ => fun
  | [d1, d2] => { results := [.lit (.bool false)], args := [d1, d2] }
  | _ => none }
def GuardOneWrongFalsely : Prop := guardOneRow.holds Try.pinned (OpenSpec.ofChange guardOneWrong)

/-- 'deadheatkeep.TraceOwn': WHATEVER THE INPUT: true; the input reads as it did. -/
def traceOwnSpec : ChangeSpec := { name := "traceOwn", fn := fun _ => fun
  | [d] => { results := [.lit (.bool true)], args := [d] }
  | _ => none }
def traceOwnRow : OpenClaim := { program := "ytamjibnebofkfaa", sum := "4ed28b9b71197fec7156ae06ef6bca17b1497dba2c6ae1a6ce2ccfee451bf79b", func := "deadheat/deadheatkeep.TraceOwn", spec := "traceOwn", plainKeys := false, apart := false }
def TraceOwnSaid : Prop := traceOwnRow.holds Try.pinned (OpenSpec.ofChange traceOwnSpec)

/-- ITS FALSE NEIGHBOUR: 'it returns false'. Refute it at one input. -/
def traceOwnWrong : ChangeSpec := { name := "traceOwn", fn := fun _ => fun
  | [d] => { results := [.lit (.bool false)], args := [d] }
  | _ => none }
def TraceOwnWrongFalsely : Prop := traceOwnRow.holds Try.pinned (OpenSpec.ofChange traceOwnWrong)

/-- 'deadheatkeep.PackBack': WHATEVER THE INPUT: true; the input reads as it did. -/
def packBackSpec : ChangeSpec := { name := "packBack", fn := fun _ => fun
  | [d1, d2] => { results := [.lit (.bool true)], args := [d1, d2] }
  | _ => none }
def packBackRow : OpenClaim := { program := "ytamjibnebofkfaa", sum := "4ed28b9b71197fec7156ae06ef6bca17b1497dba2c6ae1a6ce2ccfee451bf79b", func := "deadheat/deadheatkeep.PackBack", spec := "packBack", plainKeys := false, apart := false }
def PackBackSaid : Prop := packBackRow.holds Try.pinned (OpenSpec.ofChange packBackSpec)

/-- ITS FALSE NEIGHBOUR: 'it returns false'. Refute it at one input. -/
def packBackWrong : ChangeSpec := { name := "packBack", fn := fun _ => fun
  | [d1, d2] => { results := [.lit (.bool false)], args := [d1, d2] }
  | _ => none }
def PackBackWrongFalsely : Prop := packBackRow.holds Try.pinned (OpenSpec.ofChange packBackWrong)

/-- 'deadheatkeep.PackTurned': WHATEVER THE INPUT: true; the input reads as it did. -/
def packTurnedSpec : ChangeSpec := { name := "packTurned", fn := fun _ => fun
  | [d1, d2, d3, d4] => { results := [.lit (.bool true)], args := [d1, d2, d3, d4] }
  | _ => none }
def packTurnedRow : OpenClaim := { program := "ytamjibnebofkfaa", sum := "4ed28b9b71197fec7156ae06ef6bca17b1497dba2c6ae1a6ce2ccfee451bf79b", func := "deadheat/deadheatkeep.PackTurned", spec := "packTurned", plainKeys := false, apart := false }
def PackTurnedSaid : Prop := packTurnedRow.holds Try.pinned (OpenSpec.ofChange packTurnedSpec)

/-- ITS FALSE NEIGHBOUR: 'it returns false'. Refute it at one input. -/
def packTurnedWrong : ChangeSpec := { name := "packTurned", fn := fun _ => fun
  | [d1, d2, d3, d4] => { results := [.lit (.bool false)], args := [d1, d2, d3, d4] }
  | _ => none }
def PackTurnedWrongFalsely : Prop := packTurnedRow.holds Try.pinned (OpenSpec.ofChange packTurnedWrong)

/-- 'deadheatkeep.ClockLattice': WHATEVER THE INPUT: true; the input reads as it did. -/
def clockLatticeSpec : ChangeSpec := { name := "clockLattice", fn := fun _ => fun
  | [d1, d2, d3] => { results := [.lit (.bool true)], args := [d1, d2, d3] }
  | _ => none }
def clockLatticeRow : OpenClaim := { program := "ytamjibnebofkfaa", sum := "4ed28b9b71197fec7156ae06ef6bca17b1497dba2c6ae1a6ce2ccfee451bf79b", func := "deadheat/deadheatkeep.ClockLattice", spec := "clockLattice", unfollowed := true, recurses := true, plainKeys := false, apart := false }
def ClockLatticeSaid : Prop := clockLatticeRow.holds Try.pinned (OpenSpec.ofChange clockLatticeSpec)

/-- ITS FALSE NEIGHBOUR: 'it returns false'. Refute it at one input. -/
def clockLatticeWrong : ChangeSpec := { name := "clockLattice", fn := fun _ => fun
  | [d1, d2, d3] => { results := [.lit (.bool false)], args := [d1, d2, d3] }
  | _ => none }
def ClockLatticeWrongFalsely : Prop := clockLatticeRow.holds Try.pinned (OpenSpec.ofChange clockLatticeWrong)

/-- 'deadheatkeep.ClockCounts': WHATEVER THE INPUT: true; the input reads as it did. -/
def clockCountsSpec : ChangeSpec := { name := "clockCounts", fn := fun _ => fun
  | [d1, d2] => { results := [.lit (.bool true)], args := [d1, d2] }
  | _ => none }
def clockCountsRow : OpenClaim := { program := "ytamjibnebofkfaa", sum := "4ed28b9b71197fec7156ae06ef6bca17b1497dba2c6ae1a6ce2ccfee451bf79b", func := "deadheat/deadheatkeep.ClockCounts", spec := "clockCounts", unfollowed := true, recurses := true, plainKeys := false, apart := false }
def ClockCountsSaid : Prop := clockCountsRow.holds Try.pinned (OpenSpec.ofChange clockCountsSpec)

/-- ITS FALSE NEIGHBOUR: 'it returns false'. Refute it at one input. -/
def clockCountsWrong : ChangeSpec := { name := "clockCounts", fn := fun _ => fun
  | [d1, d2] => { results := [.lit (.bool false)], args := [d1, d2] }
  | _ => none }
def ClockCountsWrongFalsely : Prop := clockCountsRow.holds Try.pinned (OpenSpec.ofChange clockCountsWrong)

/-- 'deadheatkeep.RingFront': WHATEVER THE INPUT: true; the input reads as it did. -/
def ringFrontSpec : ChangeSpec := { name := "ringFront", fn := fun _ => fun
  | [d1, d2] => { results := [.lit (.bool true)], args := [d1, d2] }
  | _ => none }
def ringFrontRow : OpenClaim := { program := "ytamjibnebofkfaa", sum := "4ed28b9b71197fec7156ae06ef6bca17b1497dba2c6ae1a6ce2ccfee451bf79b", func := "deadheat/deadheatkeep.RingFront", spec := "ringFront", recurses := true, plainKeys := false, apart := false }
def RingFrontSaid : Prop := ringFrontRow.holds Try.pinned (OpenSpec.ofChange ringFrontSpec)

/-- ITS FALSE NEIGHBOUR: 'it returns false'. Refute it at one input. -/
def ringFrontWrong : ChangeSpec := { name := "ringFront", fn := fun _ => fun
  | [d1, d2] => { results := [.lit (.bool false)], args := [d1, d2] }
  | _ => none }
def RingFrontWrongFalsely : Prop := ringFrontRow.holds Try.pinned (OpenSpec.ofChange ringFrontWrong)

/-- 'deadheatkeep.RingOrdered': WHATEVER THE INPUT: true; the input reads as it did. -/
def ringOrderedSpec : ChangeSpec := { name := "ringOrdered", fn := fun _ => fun
  | [d] => { results := [.lit (.bool true)], args := [d] }
  | _ => none }
def ringOrderedRow : OpenClaim := { program := "ytamjibnebofkfaa", sum := "4ed28b9b71197fec7156ae06ef6bca17b1497dba2c6ae1a6ce2ccfee451bf79b", func := "deadheat/deadheatkeep.RingOrdered", spec := "ringOrdered", recurses := true, plainKeys := false, apart := false }
def RingOrderedSaid : Prop := ringOrderedRow.holds Try.pinned (OpenSpec.ofChange ringOrderedSpec)

/-- ITS FALSE NEIGHBOUR: 'it returns false'. Refute it at one input. -/
def ringOrderedWrong : ChangeSpec := { name := "ringOrdered", fn := fun _ => fun
  | [d] => { results := [.lit (.bool false)], args := [d] }
  | _ => none }
def RingOrderedWrongFalsely : Prop := ringOrderedRow.holds Try.pinned (OpenSpec.ofChange ringOrderedWrong)

/-- 'deadheatkeep.RingTrue': WHATEVER THE INPUT: true; the input reads as it did. -/
def ringTrueSpec : ChangeSpec := { name := "ringTrue", fn := fun _ => fun
  | [d1, d2] => { results := [.lit (.bool true)], args := [d1, d2] }
  | _ => none }
def ringTrueRow : OpenClaim := { program := "ytamjibnebofkfaa", sum := "4ed28b9b71197fec7156ae06ef6bca17b1497dba2c6ae1a6ce2ccfee451bf79b", func := "deadheat/deadheatkeep.RingTrue", spec := "ringTrue", recurses := true, plainKeys := false, apart := false }
def RingTrueSaid : Prop := ringTrueRow.holds Try.pinned (OpenSpec.ofChange ringTrueSpec)

/-- ITS FALSE NEIGHBOUR: 'it returns false'. Refute it at one input. -/
def ringTrueWrong : ChangeSpec := { name := "ringTrue", fn := fun _ => fun
  | [d1, d2] => { results := [.lit (.bool false)], args := [d1, d2] }
  | _ => none }
def RingTrueWrongFalsely : Prop := ringTrueRow.holds Try.pinned (OpenSpec.ofChange ringTrueWrong)

/- THE SECOND FORM. 'bulk': how many values and letters a reading holds, each counted each time it is reached (what is shared counts as often as it is met; a slice's spare places count too). A statement '..UptoSaid' is the law's where the arguments, and the package variables that the reading takes, are together of bulk at most 1048576: NARROWER than '..Said'. Prove '..Said' where nothing that the law and all that it calls make is longer than what came in: it says more and counts as full. Else prove '..UptoSaid'. A law counts once. -/
mutual
def uptoBulk {H : Type} : DataW H → Nat
  | .lit (.string bytes) => bytes.length + 1
  | .lit _ => 1
  | .nil => 1
  | .ptr d => uptoBulk d + 1
  | .slice elems spare => uptoBulkAll elems + uptoBulkAll spare + 1
  | .agg parts => uptoBulkAll parts + 1
  | .iface _ d => uptoBulk d + 1
  | .map entries => uptoBulkEntries entries + 1
  | .held _ => 1
def uptoBulkAll {H : Type} : List (DataW H) → Nat
  | [] => 0
  | d :: r => uptoBulk d + uptoBulkAll r
def uptoBulkEntries {H : Type} : List (Lit × DataW H) → Nat
  | [] => 0
  | x :: r => uptoBulkEntry x + uptoBulkEntries r
def uptoBulkEntry {H : Type} : Lit × DataW H → Nat
  | (.string bytes, d) => bytes.length + uptoBulk d + 1
  | (_, d) => uptoBulk d + 1
 end
def uptoSmall : (H : Type) → List (DataW H) → Bool := fun _ ds => decide (uptoBulkAll ds ≤ 1048576)
def OpenSpec.upto (s : _root_.Go.ChangeSpec) : _root_.Go.OpenSpec := { _root_.Go.OpenSpec.ofChange s with cond := some uptoSmall }

/-- 'deadheatkeep.GuardFront', WHERE WHAT IT READS IS OF BULK AT MOST 1048576: true; the input reads as it did. -/
def guardFrontUptoRow : OpenClaim := { program := "ytamjibnebofkfaa", sum := "4ed28b9b71197fec7156ae06ef6bca17b1497dba2c6ae1a6ce2ccfee451bf79b", func := "deadheat/deadheatkeep.GuardFront", spec := "guardFront", unfollowed := true, recurses := true, plainKeys := false, apart := false, narrowed := true }
def GuardFrontUptoSaid : Prop := guardFrontUptoRow.holds Try.pinned (OpenSpec.upto guardFrontSpec)

/-- 'deadheatkeep.GuardKeeps', WHERE WHAT IT READS IS OF BULK AT MOST 1048576: true; the input reads as it did. -/
def guardKeepsUptoRow : OpenClaim := { program := "ytamjibnebofkfaa", sum := "4ed28b9b71197fec7156ae06ef6bca17b1497dba2c6ae1a6ce2ccfee451bf79b", func := "deadheat/deadheatkeep.GuardKeeps", spec := "guardKeeps", unfollowed := true, recurses := true, plainKeys := false, apart := false, narrowed := true }
def GuardKeepsUptoSaid : Prop := guardKeepsUptoRow.holds Try.pinned (OpenSpec.upto guardKeepsSpec)

/-- 'deadheatkeep.GuardStates', WHERE WHAT IT READS IS OF BULK AT MOST 1048576: true; the input reads as it did. -/
def guardStatesUptoRow : OpenClaim := { program := "ytamjibnebofkfaa", sum := "4ed28b9b71197fec7156ae06ef6bca17b1497dba2c6ae1a6ce2ccfee451bf79b", func := "deadheat/deadheatkeep.GuardStates", spec := "guardStates", unfollowed := true, recurses := true, plainKeys := false, apart := false, narrowed := true }
def GuardStatesUptoSaid : Prop := guardStatesUptoRow.holds Try.pinned (OpenSpec.upto guardStatesSpec)

/-- 'deadheatkeep.GuardOne', WHERE WHAT IT READS IS OF BULK AT MOST 1048576: true; the input reads as it did. -/
def guardOneUptoRow : OpenClaim := { program := "ytamjibnebofkfaa", sum := "4ed28b9b71197fec7156ae06ef6bca17b1497dba2c6ae1a6ce2ccfee451bf79b", func := "deadheat/deadheatkeep.GuardOne", spec := "guardOne", unfollowed := true, recurses := true, plainKeys := false, apart := false, narrowed := true }
def GuardOneUptoSaid : Prop := guardOneUptoRow.holds Try.pinned (OpenSpec.upto guardOneSpec)

/-- 'deadheatkeep.TraceOwn', WHERE WHAT IT READS IS OF BULK AT MOST 1048576: true; the input reads as it did. -/
def traceOwnUptoRow : OpenClaim := { program := "ytamjibnebofkfaa", sum := "4ed28b9b71197fec7156ae06ef6bca17b1497dba2c6ae1a6ce2ccfee451bf79b", func := "deadheat/deadheatkeep.TraceOwn", spec := "traceOwn", plainKeys := false, apart := false, narrowed := true }
def TraceOwnUptoSaid : Prop := traceOwnUptoRow.holds Try.pinned (OpenSpec.upto traceOwnSpec)

/-- 'deadheatkeep.PackBack', WHERE WHAT IT READS IS OF BULK AT MOST 1048576: true; the input reads as it did. -/
def packBackUptoRow : OpenClaim := { program := "ytamjibnebofkfaa", sum := "4ed28b9b71197fec7156ae06ef6bca17b1497dba2c6ae1a6ce2ccfee451bf79b", func := "deadheat/deadheatkeep.PackBack", spec := "packBack", plainKeys := false, apart := false, narrowed := true }
def PackBackUptoSaid : Prop := packBackUptoRow.holds Try.pinned (OpenSpec.upto packBackSpec)

/-- 'deadheatkeep.PackTurned', WHERE WHAT IT READS IS OF BULK AT MOST 1048576: true; the input reads as it did. -/
def packTurnedUptoRow : OpenClaim := { program := "ytamjibnebofkfaa", sum := "4ed28b9b71197fec7156ae06ef6bca17b1497dba2c6ae1a6ce2ccfee451bf79b", func := "deadheat/deadheatkeep.PackTurned", spec := "packTurned", plainKeys := false, apart := false, narrowed := true }
def PackTurnedUptoSaid : Prop := packTurnedUptoRow.holds Try.pinned (OpenSpec.upto packTurnedSpec)

/-- 'deadheatkeep.ClockLattice', WHERE WHAT IT READS IS OF BULK AT MOST 1048576: true; the input reads as it did. -/
def clockLatticeUptoRow : OpenClaim := { program := "ytamjibnebofkfaa", sum := "4ed28b9b71197fec7156ae06ef6bca17b1497dba2c6ae1a6ce2ccfee451bf79b", func := "deadheat/deadheatkeep.ClockLattice", spec := "clockLattice", unfollowed := true, recurses := true, plainKeys := false, apart := false, narrowed := true }
def ClockLatticeUptoSaid : Prop := clockLatticeUptoRow.holds Try.pinned (OpenSpec.upto clockLatticeSpec)

/-- 'deadheatkeep.ClockCounts', WHERE WHAT IT READS IS OF BULK AT MOST 1048576: true; the input reads as it did. -/
def clockCountsUptoRow : OpenClaim := { program := "ytamjibnebofkfaa", sum := "4ed28b9b71197fec7156ae06ef6bca17b1497dba2c6ae1a6ce2ccfee451bf79b", func := "deadheat/deadheatkeep.ClockCounts", spec := "clockCounts", unfollowed := true, recurses := true, plainKeys := false, apart := false, narrowed := true }
def ClockCountsUptoSaid : Prop := clockCountsUptoRow.holds Try.pinned (OpenSpec.upto clockCountsSpec)

/-- 'deadheatkeep.RingFront', WHERE WHAT IT READS IS OF BULK AT MOST 1048576: true; the input reads as it did. -/
def ringFrontUptoRow : OpenClaim := { program := "ytamjibnebofkfaa", sum := "4ed28b9b71197fec7156ae06ef6bca17b1497dba2c6ae1a6ce2ccfee451bf79b", func := "deadheat/deadheatkeep.RingFront", spec := "ringFront", recurses := true, plainKeys := false, apart := false, narrowed := true }
def RingFrontUptoSaid : Prop := ringFrontUptoRow.holds Try.pinned (OpenSpec.upto ringFrontSpec)

/-- 'deadheatkeep.RingOrdered', WHERE WHAT IT READS IS OF BULK AT MOST 1048576: true; the input reads as it did. -/
def ringOrderedUptoRow : OpenClaim := { program := "ytamjibnebofkfaa", sum := "4ed28b9b71197fec7156ae06ef6bca17b1497dba2c6ae1a6ce2ccfee451bf79b", func := "deadheat/deadheatkeep.RingOrdered", spec := "ringOrdered", recurses := true, plainKeys := false, apart := false, narrowed := true }
def RingOrderedUptoSaid : Prop := ringOrderedUptoRow.holds Try.pinned (OpenSpec.upto ringOrderedSpec)

/-- 'deadheatkeep.RingTrue', WHERE WHAT IT READS IS OF BULK AT MOST 1048576: true; the input reads as it did. -/
def ringTrueUptoRow : OpenClaim := { program := "ytamjibnebofkfaa", sum := "4ed28b9b71197fec7156ae06ef6bca17b1497dba2c6ae1a6ce2ccfee451bf79b", func := "deadheat/deadheatkeep.RingTrue", spec := "ringTrue", recurses := true, plainKeys := false, apart := false, narrowed := true }
def RingTrueUptoSaid : Prop := ringTrueUptoRow.holds Try.pinned (OpenSpec.upto ringTrueSpec)

end Rows
end Go.Proofs.Ytamjibnebofkfaa
