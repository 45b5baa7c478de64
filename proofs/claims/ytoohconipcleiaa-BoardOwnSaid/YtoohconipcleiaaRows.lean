/-
  No cell of these rows narrows 'for every input' (looked for: loops, veiled, ifaces, maps, wideKeys, modest, calm, conditions, laid).
  DERIVED. THE GIVEN ROWS OF THIS SEAT. 12 by the template 'for every input the law returns true; each argument reads behind the call as it read before'; 0 by the template 'total and deterministic' (their statements: YtoohconipcleiaaTotals.lean).
  GIVEN WITH THE SEED: the statements are not yours to turn. If you find one false, say at which input.
  Laid BY PROGRAM, IN A SANDBOX (cutbox-rows.mjs): the forced cells as the released guide's own fill.sh prints them over the translation c1d9b940570e2cd7… (all of the seat's roots in one cut). By AI agents, Wed Nov 11 2026. No macro, syntax, notation, axiom, sorry.
-/
import Derived.Test.YtoohconipcleiaaChecked
import GoSem.Claim
import GoSem.ClaimJoined
import GoSem.ClaimMapViews
import Derived.JoinedTies
import Derived.KernelRfl
namespace Go.Proofs.Ytoohconipcleiaa
/- THE CELL 'sum', in the pinned program and in every row, IS THE sha256 OF THE DUMP (.gsa) THAT YtoohconipcleiaaProg.lean LOADS. Nothing in Lean hashes anything: it is a label: what it is worth is what the hold of that sum in a sandbox is worth. -/
noncomputable def Try.pinned : Pinned := { name := "ytoohconipcleiaa", sum := "c1d9b940570e2cd71d23e57ebeedf795c4ecbe4bbb8c0d6988bbaa9208bf9ef6", checked := Try.checked }
namespace Rows
def none {H : Type} : Left H := { results := [], args := [] }

/-- 'deadheattop.TopReplay': WHATEVER THE INPUT: true; the input reads as it did. -/
def topReplaySpec : ChangeSpec := { name := "topReplay", fn := fun _ => fun
  | [d1, d2] => { results := [.lit (.bool true)], args := [d1, d2] }
  | _ => none }
def topReplayRow : OpenClaim := { program := "ytoohconipcleiaa", sum := "c1d9b940570e2cd71d23e57ebeedf795c4ecbe4bbb8c0d6988bbaa9208bf9ef6", func := "deadheat/deadheattop.TopReplay", spec := "topReplay", unfollowed := true, recurses := true, plainKeys := false, apart := false }
def TopReplaySaid : Prop := topReplayRow.holds Try.pinned (OpenSpec.ofChange topReplaySpec)

/-- ITS FALSE NEIGHBOUR: 'it returns false'. Refute it at one input. -/
def topReplayWrong : ChangeSpec := { name := "topReplay", fn := fun _ => fun
  | [d1, d2] => { results := [.lit (.bool false)], args := [d1, d2] }
  | _ => none }
def TopReplayWrongFalsely : Prop := topReplayRow.holds Try.pinned (OpenSpec.ofChange topReplayWrong)

/-- 'deadheattop.TopLocked': WHATEVER THE INPUT: true; the input reads as it did. -/
def topLockedSpec : ChangeSpec := { name := "topLocked", fn := fun _ => fun
  | [d1, d2] => { results := [.lit (.bool true)], args := [d1, d2] }
  | _ => none }
def topLockedRow : OpenClaim := { program := "ytoohconipcleiaa", sum := "c1d9b940570e2cd71d23e57ebeedf795c4ecbe4bbb8c0d6988bbaa9208bf9ef6", func := "deadheat/deadheattop.TopLocked", spec := "topLocked", unfollowed := true, recurses := true, plainKeys := false, apart := false }
def TopLockedSaid : Prop := topLockedRow.holds Try.pinned (OpenSpec.ofChange topLockedSpec)

/-- ITS FALSE NEIGHBOUR: 'it returns false'. Refute it at one input. -/
def topLockedWrong : ChangeSpec := { name := "topLocked", fn := fun _ => fun
  | [d1, d2] => { results := [.lit (.bool false)], args := [d1, d2] }
  | _ => none }
def TopLockedWrongFalsely : Prop := topLockedRow.holds Try.pinned (OpenSpec.ofChange topLockedWrong)

/-- 'deadheatkeep.EveryDining': WHATEVER THE INPUT: true; the input reads as it did. -/
def everyDiningSpec : ChangeSpec := { name := "everyDining", fn := fun _ => fun
  | [d1, d2, d3] => { results := [.lit (.bool true)], args := [d1, d2, d3] }
  | _ => none }
def everyDiningRow : OpenClaim := { program := "ytoohconipcleiaa", sum := "c1d9b940570e2cd71d23e57ebeedf795c4ecbe4bbb8c0d6988bbaa9208bf9ef6", func := "deadheat/deadheatkeep.EveryDining", spec := "everyDining", unfollowed := true, recurses := true, plainKeys := false, apart := false }
def EveryDiningSaid : Prop := everyDiningRow.holds Try.pinned (OpenSpec.ofChange everyDiningSpec)

/-- ITS FALSE NEIGHBOUR: 'it returns false'. Refute it at one input. -/
def everyDiningWrong : ChangeSpec := { name := "everyDining", fn := fun _ => fun
  | [d1, d2, d3] => { results := [.lit (.bool false)], args := [d1, d2, d3] }
  | _ => none }
def EveryDiningWrongFalsely : Prop := everyDiningRow.holds Try.pinned (OpenSpec.ofChange everyDiningWrong)

/-- 'deadheatkeep.EveryHas': WHATEVER THE INPUT: true; the input reads as it did. -/
def everyHasSpec : ChangeSpec := { name := "everyHas", fn := fun _ => fun
  | [d1, d2] => { results := [.lit (.bool true)], args := [d1, d2] }
  | _ => none }
def everyHasRow : OpenClaim := { program := "ytoohconipcleiaa", sum := "c1d9b940570e2cd71d23e57ebeedf795c4ecbe4bbb8c0d6988bbaa9208bf9ef6", func := "deadheat/deadheatkeep.EveryHas", spec := "everyHas", unfollowed := true, recurses := true, plainKeys := false, apart := false }
def EveryHasSaid : Prop := everyHasRow.holds Try.pinned (OpenSpec.ofChange everyHasSpec)

/-- ITS FALSE NEIGHBOUR: 'it returns false'. Refute it at one input. -/
def everyHasWrong : ChangeSpec := { name := "everyHas", fn := fun _ => fun
  | [d1, d2] => { results := [.lit (.bool false)], args := [d1, d2] }
  | _ => none }
def EveryHasWrongFalsely : Prop := everyHasRow.holds Try.pinned (OpenSpec.ofChange everyHasWrong)

/-- 'deadheatkeep.EveryWay': WHATEVER THE INPUT: true; the input reads as it did. -/
def everyWaySpec : ChangeSpec := { name := "everyWay", fn := fun _ => fun
  | [d] => { results := [.lit (.bool true)], args := [d] }
  | _ => none }
def everyWayRow : OpenClaim := { program := "ytoohconipcleiaa", sum := "c1d9b940570e2cd71d23e57ebeedf795c4ecbe4bbb8c0d6988bbaa9208bf9ef6", func := "deadheat/deadheatkeep.EveryWay", spec := "everyWay", unfollowed := true, recurses := true, plainKeys := false, apart := false }
def EveryWaySaid : Prop := everyWayRow.holds Try.pinned (OpenSpec.ofChange everyWaySpec)

/-- ITS FALSE NEIGHBOUR: 'it returns false'. Refute it at one input. -/
def everyWayWrong : ChangeSpec := { name := "everyWay", fn := fun _ => fun
  | [d] => { results := [.lit (.bool false)], args := [d] }
  | _ => none }
def EveryWayWrongFalsely : Prop := everyWayRow.holds Try.pinned (OpenSpec.ofChange everyWayWrong)

/-- 'deadheatkeep.EveryGoes': WHATEVER THE INPUT: true; the input reads as it did. -/
def everyGoesSpec : ChangeSpec := { name := "everyGoes", fn := fun _ => fun
  | [d] => { results := [.lit (.bool true)], args := [d] }
  | _ => none }
def everyGoesRow : OpenClaim := { program := "ytoohconipcleiaa", sum := "c1d9b940570e2cd71d23e57ebeedf795c4ecbe4bbb8c0d6988bbaa9208bf9ef6", func := "deadheat/deadheatkeep.EveryGoes", spec := "everyGoes", unfollowed := true, recurses := true, plainKeys := false, apart := false }
def EveryGoesSaid : Prop := everyGoesRow.holds Try.pinned (OpenSpec.ofChange everyGoesSpec)

/-- ITS FALSE NEIGHBOUR: 'it returns false'. Refute it at one input. -/
def everyGoesWrong : ChangeSpec := { name := "everyGoes", fn := fun _ => fun
  | [d] => { results := [.lit (.bool false)], args := [d] }
  | _ => none }
def EveryGoesWrongFalsely : Prop := everyGoesRow.holds Try.pinned (OpenSpec.ofChange everyGoesWrong)

/-- 'deadheatkeep.EveryFree': WHATEVER THE INPUT: true; the input reads as it did. -/
def everyFreeSpec : ChangeSpec := { name := "everyFree", fn := fun _ => fun
  | [d] => { results := [.lit (.bool true)], args := [d] }
  | _ => none }
def everyFreeRow : OpenClaim := { program := "ytoohconipcleiaa", sum := "c1d9b940570e2cd71d23e57ebeedf795c4ecbe4bbb8c0d6988bbaa9208bf9ef6", func := "deadheat/deadheatkeep.EveryFree", spec := "everyFree", unfollowed := true, recurses := true, plainKeys := false, apart := false }
def EveryFreeSaid : Prop := everyFreeRow.holds Try.pinned (OpenSpec.ofChange everyFreeSpec)

/-- ITS FALSE NEIGHBOUR: 'it returns false'. Refute it at one input. -/
def everyFreeWrong : ChangeSpec := { name := "everyFree", fn := fun _ => fun
  | [d] => { results := [.lit (.bool false)], args := [d] }
  | _ => none }
def EveryFreeWrongFalsely : Prop := everyFreeRow.holds Try.pinned (OpenSpec.ofChange everyFreeWrong)

/-- 'deadheatkeep.EveryLost': WHATEVER THE INPUT: true; the input reads as it did. -/
def everyLostSpec : ChangeSpec := { name := "everyLost", fn := fun _ => fun
  | [d1, d2] => { results := [.lit (.bool true)], args := [d1, d2] }
  | _ => none }
def everyLostRow : OpenClaim := { program := "ytoohconipcleiaa", sum := "c1d9b940570e2cd71d23e57ebeedf795c4ecbe4bbb8c0d6988bbaa9208bf9ef6", func := "deadheat/deadheatkeep.EveryLost", spec := "everyLost", unfollowed := true, recurses := true, plainKeys := false, apart := false }
def EveryLostSaid : Prop := everyLostRow.holds Try.pinned (OpenSpec.ofChange everyLostSpec)

/-- ITS FALSE NEIGHBOUR: 'it returns false'. Refute it at one input. -/
def everyLostWrong : ChangeSpec := { name := "everyLost", fn := fun _ => fun
  | [d1, d2] => { results := [.lit (.bool false)], args := [d1, d2] }
  | _ => none }
def EveryLostWrongFalsely : Prop := everyLostRow.holds Try.pinned (OpenSpec.ofChange everyLostWrong)

/-- 'deadheatkeep.EveryRaced': WHATEVER THE INPUT: true; the input reads as it did. -/
def everyRacedSpec : ChangeSpec := { name := "everyRaced", fn := fun _ => fun
  | [d1, d2] => { results := [.lit (.bool true)], args := [d1, d2] }
  | _ => none }
def everyRacedRow : OpenClaim := { program := "ytoohconipcleiaa", sum := "c1d9b940570e2cd71d23e57ebeedf795c4ecbe4bbb8c0d6988bbaa9208bf9ef6", func := "deadheat/deadheatkeep.EveryRaced", spec := "everyRaced", unfollowed := true, recurses := true, plainKeys := false, apart := false }
def EveryRacedSaid : Prop := everyRacedRow.holds Try.pinned (OpenSpec.ofChange everyRacedSpec)

/-- ITS FALSE NEIGHBOUR: 'it returns false'. Refute it at one input. -/
def everyRacedWrong : ChangeSpec := { name := "everyRaced", fn := fun _ => fun
  | [d1, d2] => { results := [.lit (.bool false)], args := [d1, d2] }
  | _ => none }
def EveryRacedWrongFalsely : Prop := everyRacedRow.holds Try.pinned (OpenSpec.ofChange everyRacedWrong)

/-- 'deadheatkeep.EveryOne': WHATEVER THE INPUT: true; the input reads as it did. -/
def everyOneSpec : ChangeSpec := { name := "everyOne", fn := fun _ => fun
  | [d] => { results := [.lit (.bool true)], args := [d] }
  | _ => none }
def everyOneRow : OpenClaim := { program := "ytoohconipcleiaa", sum := "c1d9b940570e2cd71d23e57ebeedf795c4ecbe4bbb8c0d6988bbaa9208bf9ef6", func := "deadheat/deadheatkeep.EveryOne", spec := "everyOne", unfollowed := true, recurses := true, plainKeys := false, apart := false }
def EveryOneSaid : Prop := everyOneRow.holds Try.pinned (OpenSpec.ofChange everyOneSpec)

/-- ITS FALSE NEIGHBOUR: 'it returns false'. Refute it at one input. -/
def everyOneWrong : ChangeSpec := { name := "everyOne", fn := fun _ => fun
  | [d] => { results := [.lit (.bool false)], args := [d] }
  | _ => none }
def EveryOneWrongFalsely : Prop := everyOneRow.holds Try.pinned (OpenSpec.ofChange everyOneWrong)

/-- 'deadheatkeep.ClockLattice': WHATEVER THE INPUT: true; the input reads as it did. -/
def clockLatticeSpec : ChangeSpec := { name := "clockLattice", fn := fun _ => fun
  | [d1, d2, d3] => { results := [.lit (.bool true)], args := [d1, d2, d3] }
  | _ => none }
def clockLatticeRow : OpenClaim := { program := "ytoohconipcleiaa", sum := "c1d9b940570e2cd71d23e57ebeedf795c4ecbe4bbb8c0d6988bbaa9208bf9ef6", func := "deadheat/deadheatkeep.ClockLattice", spec := "clockLattice", unfollowed := true, recurses := true, plainKeys := false, apart := false }
def ClockLatticeSaid : Prop := clockLatticeRow.holds Try.pinned (OpenSpec.ofChange clockLatticeSpec)

/-- ITS FALSE NEIGHBOUR: 'it returns false'. Refute it at one input. -/
def clockLatticeWrong : ChangeSpec := { name := "clockLattice", fn := fun _ => fun
  | [d1, d2, d3] => { results := [.lit (.bool false)], args := [d1, d2, d3] }
  | _ => none }
def ClockLatticeWrongFalsely : Prop := clockLatticeRow.holds Try.pinned (OpenSpec.ofChange clockLatticeWrong)

/-- 'deadheatkeep.BoardOwn': WHATEVER THE INPUT: true; the input reads as it did. -/
def boardOwnSpec : ChangeSpec := { name := "boardOwn", fn := fun _ => fun
  | [d1, d2] => { results := [.lit (.bool true)], args := [d1, d2] }
  | _ => none }
def boardOwnRow : OpenClaim := { program := "ytoohconipcleiaa", sum := "c1d9b940570e2cd71d23e57ebeedf795c4ecbe4bbb8c0d6988bbaa9208bf9ef6", func := "deadheat/deadheatkeep.BoardOwn", spec := "boardOwn", inPlace := ["(*sync.RWMutex).Lock", "internal/race.Read", "internal/race.Disable", "(*internal/sync.Mutex).Lock", "sync/atomic.CompareAndSwapInt32", "internal/race.Enable", "internal/race.Acquire", "(*internal/sync.Mutex).lockSlow", "internal/sync.runtime_canSpin", "internal/sync.runtime_doSpin", "internal/sync.throw", "internal/sync.runtime_nanotime", "internal/sync.runtime_SemacquireMutex", "sync/atomic.AddInt32", "sync.runtime_SemacquireRWMutex", "(*sync.RWMutex).Unlock", "internal/race.Release", "internal/race.ReleaseMerge", "sync.fatal", "sync.runtime_Semrelease", "(*internal/sync.Mutex).Unlock", "(*internal/sync.Mutex).unlockSlow", "internal/sync.fatal", "internal/sync.runtime_Semrelease", "(*sync.RWMutex).RLock", "sync.runtime_SemacquireRWMutexR", "(*sync.RWMutex).RUnlock", "(*sync.RWMutex).rUnlockSlow"], plainKeys := false, apart := false }
def BoardOwnSaid : Prop := boardOwnRow.holds Try.pinned (OpenSpec.ofChange boardOwnSpec)

/-- ITS FALSE NEIGHBOUR: 'it returns false'. Refute it at one input. -/
def boardOwnWrong : ChangeSpec := { name := "boardOwn", fn := fun _ => fun
  | [d1, d2] => { results := [.lit (.bool false)], args := [d1, d2] }
  | _ => none }
def BoardOwnWrongFalsely : Prop := boardOwnRow.holds Try.pinned (OpenSpec.ofChange boardOwnWrong)

/- THE SECOND FORM. 'bulk': how many values and letters a reading holds, each counted each time it is reached (what is shared counts as often as it is met; a slice's spare places count too). A statement '..UptoSaid' is the law's where the arguments, and the package variables that the reading takes, are together of bulk at most 1048576: NARROWER than '..Said'. Prove '..Said' where nothing that the law and all that it calls make is longer than what came in: it says more and counts as full. Else prove '..UptoSaid'. A law counts once. -/
mutual
def uptoBulk {H : Type} : DataW H → Nat
  | .lit (.string bytes) => bytes.length + 1
  | .lit _ => 1
  | .nil => 1
  | .ptr d => uptoBulk d + 1
  | .slice elems spare => uptoBulkAll elems + uptoBulkAll spare + 1
  | .agg parts => uptoBulkAll parts + 1
  | .iface _ d => uptoBulk d + 1
  | .map entries => uptoBulkEntries entries + 1
  | .held _ => 1
def uptoBulkAll {H : Type} : List (DataW H) → Nat
  | [] => 0
  | d :: r => uptoBulk d + uptoBulkAll r
def uptoBulkEntries {H : Type} : List (Lit × DataW H) → Nat
  | [] => 0
  | x :: r => uptoBulkEntry x + uptoBulkEntries r
def uptoBulkEntry {H : Type} : Lit × DataW H → Nat
  | (.string bytes, d) => bytes.length + uptoBulk d + 1
  | (_, d) => uptoBulk d + 1
 end
def uptoSmall : (H : Type) → List (DataW H) → Bool := fun _ ds => decide (uptoBulkAll ds ≤ 1048576)
def OpenSpec.upto (s : _root_.Go.ChangeSpec) : _root_.Go.OpenSpec := { _root_.Go.OpenSpec.ofChange s with cond := some uptoSmall }

/-- 'deadheattop.TopReplay', WHERE WHAT IT READS IS OF BULK AT MOST 1048576: true; the input reads as it did. -/
def topReplayUptoRow : OpenClaim := { program := "ytoohconipcleiaa", sum := "c1d9b940570e2cd71d23e57ebeedf795c4ecbe4bbb8c0d6988bbaa9208bf9ef6", func := "deadheat/deadheattop.TopReplay", spec := "topReplay", unfollowed := true, recurses := true, plainKeys := false, apart := false, narrowed := true }
def TopReplayUptoSaid : Prop := topReplayUptoRow.holds Try.pinned (OpenSpec.upto topReplaySpec)

/-- 'deadheattop.TopLocked', WHERE WHAT IT READS IS OF BULK AT MOST 1048576: true; the input reads as it did. -/
def topLockedUptoRow : OpenClaim := { program := "ytoohconipcleiaa", sum := "c1d9b940570e2cd71d23e57ebeedf795c4ecbe4bbb8c0d6988bbaa9208bf9ef6", func := "deadheat/deadheattop.TopLocked", spec := "topLocked", unfollowed := true, recurses := true, plainKeys := false, apart := false, narrowed := true }
def TopLockedUptoSaid : Prop := topLockedUptoRow.holds Try.pinned (OpenSpec.upto topLockedSpec)

/-- 'deadheatkeep.EveryDining', WHERE WHAT IT READS IS OF BULK AT MOST 1048576: true; the input reads as it did. -/
def everyDiningUptoRow : OpenClaim := { program := "ytoohconipcleiaa", sum := "c1d9b940570e2cd71d23e57ebeedf795c4ecbe4bbb8c0d6988bbaa9208bf9ef6", func := "deadheat/deadheatkeep.EveryDining", spec := "everyDining", unfollowed := true, recurses := true, plainKeys := false, apart := false, narrowed := true }
def EveryDiningUptoSaid : Prop := everyDiningUptoRow.holds Try.pinned (OpenSpec.upto everyDiningSpec)

/-- 'deadheatkeep.EveryHas', WHERE WHAT IT READS IS OF BULK AT MOST 1048576: true; the input reads as it did. -/
def everyHasUptoRow : OpenClaim := { program := "ytoohconipcleiaa", sum := "c1d9b940570e2cd71d23e57ebeedf795c4ecbe4bbb8c0d6988bbaa9208bf9ef6", func := "deadheat/deadheatkeep.EveryHas", spec := "everyHas", unfollowed := true, recurses := true, plainKeys := false, apart := false, narrowed := true }
def EveryHasUptoSaid : Prop := everyHasUptoRow.holds Try.pinned (OpenSpec.upto everyHasSpec)

/-- 'deadheatkeep.EveryWay', WHERE WHAT IT READS IS OF BULK AT MOST 1048576: true; the input reads as it did. -/
def everyWayUptoRow : OpenClaim := { program := "ytoohconipcleiaa", sum := "c1d9b940570e2cd71d23e57ebeedf795c4ecbe4bbb8c0d6988bbaa9208bf9ef6", func := "deadheat/deadheatkeep.EveryWay", spec := "everyWay", unfollowed := true, recurses := true, plainKeys := false, apart := false, narrowed := true }
def EveryWayUptoSaid : Prop := everyWayUptoRow.holds Try.pinned (OpenSpec.upto everyWaySpec)

/-- 'deadheatkeep.EveryGoes', WHERE WHAT IT READS IS OF BULK AT MOST 1048576: true; the input reads as it did. -/
def everyGoesUptoRow : OpenClaim := { program := "ytoohconipcleiaa", sum := "c1d9b940570e2cd71d23e57ebeedf795c4ecbe4bbb8c0d6988bbaa9208bf9ef6", func := "deadheat/deadheatkeep.EveryGoes", spec := "everyGoes", unfollowed := true, recurses := true, plainKeys := false, apart := false, narrowed := true }
def EveryGoesUptoSaid : Prop := everyGoesUptoRow.holds Try.pinned (OpenSpec.upto everyGoesSpec)

/-- 'deadheatkeep.EveryFree', WHERE WHAT IT READS IS OF BULK AT MOST 1048576: true; the input reads as it did. -/
def everyFreeUptoRow : OpenClaim := { program := "ytoohconipcleiaa", sum := "c1d9b940570e2cd71d23e57ebeedf795c4ecbe4bbb8c0d6988bbaa9208bf9ef6", func := "deadheat/deadheatkeep.EveryFree", spec := "everyFree", unfollowed := true, recurses := true, plainKeys := false, apart := false, narrowed := true }
def EveryFreeUptoSaid : Prop := everyFreeUptoRow.holds Try.pinned (OpenSpec.upto everyFreeSpec)

/-- 'deadheatkeep.EveryLost', WHERE WHAT IT READS IS OF BULK AT MOST 1048576: true; the input reads as it did. -/
def everyLostUptoRow : OpenClaim := { program := "ytoohconipcleiaa", sum := "c1d9b940570e2cd71d23e57ebeedf795c4ecbe4bbb8c0d6988bbaa9208bf9ef6", func := "deadheat/deadheatkeep.EveryLost", spec := "everyLost", unfollowed := true, recurses := true, plainKeys := false, apart := false, narrowed := true }
def EveryLostUptoSaid : Prop := everyLostUptoRow.holds Try.pinned (OpenSpec.upto everyLostSpec)

/-- 'deadheatkeep.EveryRaced', WHERE WHAT IT READS IS OF BULK AT MOST 1048576: true; the input reads as it did. -/
def everyRacedUptoRow : OpenClaim := { program := "ytoohconipcleiaa", sum := "c1d9b940570e2cd71d23e57ebeedf795c4ecbe4bbb8c0d6988bbaa9208bf9ef6", func := "deadheat/deadheatkeep.EveryRaced", spec := "everyRaced", unfollowed := true, recurses := true, plainKeys := false, apart := false, narrowed := true }
def EveryRacedUptoSaid : Prop := everyRacedUptoRow.holds Try.pinned (OpenSpec.upto everyRacedSpec)

/-- 'deadheatkeep.EveryOne', WHERE WHAT IT READS IS OF BULK AT MOST 1048576: true; the input reads as it did. -/
def everyOneUptoRow : OpenClaim := { program := "ytoohconipcleiaa", sum := "c1d9b940570e2cd71d23e57ebeedf795c4ecbe4bbb8c0d6988bbaa9208bf9ef6", func := "deadheat/deadheatkeep.EveryOne", spec := "everyOne", unfollowed := true, recurses := true, plainKeys := false, apart := false, narrowed := true }
def EveryOneUptoSaid : Prop := everyOneUptoRow.holds Try.pinned (OpenSpec.upto everyOneSpec)

/-- 'deadheatkeep.ClockLattice', WHERE WHAT IT READS IS OF BULK AT MOST 1048576: true; the input reads as it did. -/
def clockLatticeUptoRow : OpenClaim := { program := "ytoohconipcleiaa", sum := "c1d9b940570e2cd71d23e57ebeedf795c4ecbe4bbb8c0d6988bbaa9208bf9ef6", func := "deadheat/deadheatkeep.ClockLattice", spec := "clockLattice", unfollowed := true, recurses := true, plainKeys := false, apart := false, narrowed := true }
def ClockLatticeUptoSaid : Prop := clockLatticeUptoRow.holds Try.pinned (OpenSpec.upto clockLatticeSpec)

/-- 'deadheatkeep.BoardOwn', WHERE WHAT IT READS IS OF BULK AT MOST 1048576: true; the input reads as it did. -/
def boardOwnUptoRow : OpenClaim := { program := "ytoohconipcleiaa", sum := "c1d9b940570e2cd71d23e57ebeedf795c4ecbe4bbb8c0d6988bbaa9208bf9ef6", func := "deadheat/deadheatkeep.BoardOwn", spec := "boardOwn", inPlace := ["(*sync.RWMutex).Lock", "internal/race.Read", "internal/race.Disable", "(*internal/sync.Mutex).Lock", "sync/atomic.CompareAndSwapInt32", "internal/race.Enable", "internal/race.Acquire", "(*internal/sync.Mutex).lockSlow", "internal/sync.runtime_canSpin", "internal/sync.runtime_doSpin", "internal/sync.throw", "internal/sync.runtime_nanotime", "internal/sync.runtime_SemacquireMutex", "sync/atomic.AddInt32", "sync.runtime_SemacquireRWMutex", "(*sync.RWMutex).Unlock", "internal/race.Release", "internal/race.ReleaseMerge", "sync.fatal", "sync.runtime_Semrelease", "(*internal/sync.Mutex).Unlock", "(*internal/sync.Mutex).unlockSlow", "internal/sync.fatal", "internal/sync.runtime_Semrelease", "(*sync.RWMutex).RLock", "sync.runtime_SemacquireRWMutexR", "(*sync.RWMutex).RUnlock", "(*sync.RWMutex).rUnlockSlow"], plainKeys := false, apart := false, narrowed := true }
def BoardOwnUptoSaid : Prop := boardOwnUptoRow.holds Try.pinned (OpenSpec.upto boardOwnSpec)

end Rows
end Go.Proofs.Ytoohconipcleiaa
