/-
  No cell of these rows narrows 'for every input' (looked for: loops, veiled, ifaces, maps, wideKeys, modest, calm, conditions, laid).
  DERIVED. THE GIVEN ROWS OF THIS SEAT. 8 by the template 'for every input the law returns true; each argument reads behind the call as it read before'; 0 by the template 'total and deterministic' (their statements: YtfaoehpmkhmdhaaTotals.lean).
  GIVEN WITH THE SEED: the statements are not yours to turn. If you find one false, say at which input.
  Laid BY PROGRAM, IN A SANDBOX (cutbox-rows.mjs): the forced cells as the released guide's own fill.sh prints them over the translation 9a09c553425683ec… (all of the seat's roots in one cut). By AI agents, Wed Nov 11 2026. No macro, syntax, notation, axiom, sorry.
-/
import Derived.Test.YtfaoehpmkhmdhaaChecked
import GoSem.Claim
import GoSem.ClaimJoined
import GoSem.ClaimMapViews
import Derived.JoinedTies
import Derived.KernelRfl
namespace Go.Proofs.Ytfaoehpmkhmdhaa
/- THE CELL 'sum', in the pinned program and in every row, IS THE sha256 OF THE DUMP (.gsa) THAT YtfaoehpmkhmdhaaProg.lean LOADS. Nothing in Lean hashes anything: it is a label: what it is worth is what the hold of that sum in a sandbox is worth. -/
noncomputable def Try.pinned : Pinned := { name := "ytfaoehpmkhmdhaa", sum := "9a09c553425683eca9cd2b52ceb93dad88755413734879970c9ffefac02abf3b", checked := Try.checked }
namespace Rows
def none {H : Type} : Left H := { results := [], args := [] }

/-- 'deadheatkeep.ClockLattice': WHATEVER THE INPUT: true; the input reads as it did. -/
def clockLatticeSpec : ChangeSpec := { name := "clockLattice", fn := fun _ => fun
  | [d1, d2, d3] => { results := [.lit (.bool true)], args := [d1, d2, d3] }
  | _ => none }
def clockLatticeRow : OpenClaim := { program := "ytfaoehpmkhmdhaa", sum := "9a09c553425683eca9cd2b52ceb93dad88755413734879970c9ffefac02abf3b", func := "deadheat/deadheatkeep.ClockLattice", spec := "clockLattice", unfollowed := true, recurses := true, plainKeys := false, apart := false }
def ClockLatticeSaid : Prop := clockLatticeRow.holds Try.pinned (OpenSpec.ofChange clockLatticeSpec)

/-- ITS FALSE NEIGHBOUR: 'it returns false'. Refute it at one input. -/
def clockLatticeWrong : ChangeSpec := { name := "clockLattice", fn := fun _ => fun
  | [d1, d2, d3] => { results := [.lit (.bool false)], args := [d1, d2, d3] }
  | _ => none }
def ClockLatticeWrongFalsely : Prop := clockLatticeRow.holds Try.pinned (OpenSpec.ofChange clockLatticeWrong)

/-- 'deadheatkeep.GuardFront': WHATEVER THE INPUT: true; the input reads as it did. -/
def guardFrontSpec : ChangeSpec := { name := "guardFront", fn := fun _ => fun
  | [d1, d2] => { results := [.lit (.bool true)], args := [d1, d2] }
  | _ => none }
def guardFrontRow : OpenClaim := { program := "ytfaoehpmkhmdhaa", sum := "9a09c553425683eca9cd2b52ceb93dad88755413734879970c9ffefac02abf3b", func := "deadheat/deadheatkeep.GuardFront", spec := "guardFront", unfollowed := true, recurses := true, plainKeys := false, apart := false }
def GuardFrontSaid : Prop := guardFrontRow.holds Try.pinned (OpenSpec.ofChange guardFrontSpec)

/-- ITS FALSE NEIGHBOUR: 'it returns false'. Refute it at one input. -/
def guardFrontWrong : ChangeSpec := { name := "guardFront", fn := fun _ => fun
  | [d1, d2] => { results := [.lit (.bool false)], args := [d1, d2] }
  | _ => none }
def GuardFrontWrongFalsely : Prop := guardFrontRow.holds Try.pinned (OpenSpec.ofChange guardFrontWrong)

/-- 'deadheatkeep.GuardKeeps': WHATEVER THE INPUT: true; the input reads as it did. -/
def guardKeepsSpec : ChangeSpec := { name := "guardKeeps", fn := fun _ => fun
  | [d] => { results := [.lit (.bool true)], args := [d] }
  | _ => none }
def guardKeepsRow : OpenClaim := { program := "ytfaoehpmkhmdhaa", sum := "9a09c553425683eca9cd2b52ceb93dad88755413734879970c9ffefac02abf3b", func := "deadheat/deadheatkeep.GuardKeeps", spec := "guardKeeps", unfollowed := true, recurses := true, plainKeys := false, apart := false }
def GuardKeepsSaid : Prop := guardKeepsRow.holds Try.pinned (OpenSpec.ofChange guardKeepsSpec)

/-- ITS FALSE NEIGHBOUR: 'it returns false'. Refute it at one input. -/
def guardKeepsWrong : ChangeSpec := { name := "guardKeeps", fn := fun _ => fun
  | [d] => { results := [.lit (.bool false)], args := [d] }
  | _ => none }
def GuardKeepsWrongFalsely : Prop := guardKeepsRow.holds Try.pinned (OpenSpec.ofChange guardKeepsWrong)

/-- 'deadheatkeep.GuardStates': WHATEVER THE INPUT: true; the input reads as it did. -/
def guardStatesSpec : ChangeSpec := { name := "guardStates", fn := fun _ => fun
  | [d] => { results := [.lit (.bool true)], args := [d] }
  | _ => none }
def guardStatesRow : OpenClaim := { program := "ytfaoehpmkhmdhaa", sum := "9a09c553425683eca9cd2b52ceb93dad88755413734879970c9ffefac02abf3b", func := "deadheat/deadheatkeep.GuardStates", spec := "guardStates", unfollowed := true, recurses := true, plainKeys := false, apart := false }
def GuardStatesSaid : Prop := guardStatesRow.holds Try.pinned (OpenSpec.ofChange guardStatesSpec)

/-- ITS FALSE NEIGHBOUR: 'it returns false'. Refute it at one input. -/
def guardStatesWrong : ChangeSpec := { name := "guardStates", fn := fun _ => fun
  | [d] => { results := [.lit (.bool false)], args := [d] }
  | _ => none }
def GuardStatesWrongFalsely : Prop := guardStatesRow.holds Try.pinned (OpenSpec.ofChange guardStatesWrong)

/-- 'deadheatkeep.GuardOne': WHATEVER THE INPUT: true; the input reads as it did. -/
def guardOneSpec : ChangeSpec := { name := "guardOne", fn := fun _ => fun
  | [d1, d2] => { results := [.lit (.bool true)], args := [d1, d2] }
  | _ => none }
def guardOneRow : OpenClaim := { program := "ytfaoehpmkhmdhaa", sum := "9a09c553425683eca9cd2b52ceb93dad88755413734879970c9ffefac02abf3b", func := "deadheat/deadheatkeep.GuardOne", spec := "guardOne", unfollowed := true, recurses := true, plainKeys := false, apart := false }
def GuardOneSaid : Prop := guardOneRow.holds Try.pinned (OpenSpec.ofChange guardOneSpec)

/-- ITS FALSE NEIGHBOUR: 'it returns false'. Refute it at one input. -/
def guardOneWrong : ChangeSpec := { name := "guardOne", fn := fun _ => fun
  | [d1, d2] => { results := [.lit (.bool false)], args := [d1, d2] }
  | _ => none }
def GuardOneWrongFalsely : Prop := guardOneRow.holds Try.pinned (OpenSpec.ofChange guardOneWrong)

/-- 'deadheatkeep.GuardSafe': WHATEVER THE INPUT: true; the input reads as it did. -/
def guardSafeSpec : ChangeSpec := { name := "guardSafe", fn := fun _ => fun
  | [d] => { results := [.lit (.bool true)], args := [d] }
  | _ => none }
def guardSafeRow : OpenClaim := { program := "ytfaoehpmkhmdhaa", sum := "9a09c553425683eca9cd2b52ceb93dad88755413734879970c9ffefac02abf3b", func := "deadheat/deadheatkeep.GuardSafe", spec := "guardSafe", unfollowed := true, recurses := true, plainKeys := false, apart := false }
def GuardSafeSaid : Prop := guardSafeRow.holds Try.pinned (OpenSpec.ofChange guardSafeSpec)

/-- ITS FALSE NEIGHBOUR: 'it returns false'. Refute it at one input. -/
def guardSafeWrong : ChangeSpec := { name := "guardSafe", fn := fun _ => fun
  | [d] => { results := [.lit (.bool false)], args := [d] }
  | _ => none }
def GuardSafeWrongFalsely : Prop := guardSafeRow.holds Try.pinned (OpenSpec.ofChange guardSafeWrong)

/-- 'deadheatkeep.BoardOwn': WHATEVER THE INPUT: true; the input reads as it did. -/
def boardOwnSpec : ChangeSpec := { name := "boardOwn", fn := fun _ => fun
  | [d1, d2] => { results := [.lit (.bool true)], args := [d1, d2] }
  | _ => none }
def boardOwnRow : OpenClaim := { program := "ytfaoehpmkhmdhaa", sum := "9a09c553425683eca9cd2b52ceb93dad88755413734879970c9ffefac02abf3b", func := "deadheat/deadheatkeep.BoardOwn", spec := "boardOwn", inPlace := ["(*sync.RWMutex).Lock", "internal/race.Read", "internal/race.Disable", "(*internal/sync.Mutex).Lock", "sync/atomic.CompareAndSwapInt32", "internal/race.Enable", "internal/race.Acquire", "(*internal/sync.Mutex).lockSlow", "internal/sync.runtime_canSpin", "internal/sync.runtime_doSpin", "internal/sync.throw", "internal/sync.runtime_nanotime", "internal/sync.runtime_SemacquireMutex", "sync/atomic.AddInt32", "sync.runtime_SemacquireRWMutex", "(*sync.RWMutex).Unlock", "internal/race.Release", "internal/race.ReleaseMerge", "sync.fatal", "sync.runtime_Semrelease", "(*internal/sync.Mutex).Unlock", "(*internal/sync.Mutex).unlockSlow", "internal/sync.fatal", "internal/sync.runtime_Semrelease", "(*sync.RWMutex).RLock", "sync.runtime_SemacquireRWMutexR", "(*sync.RWMutex).RUnlock", "(*sync.RWMutex).rUnlockSlow"], plainKeys := false, apart := false }
def BoardOwnSaid : Prop := boardOwnRow.holds Try.pinned (OpenSpec.ofChange boardOwnSpec)

/-- ITS FALSE NEIGHBOUR: 'it returns false'. Refute it at one input. -/
def boardOwnWrong : ChangeSpec := { name := "boardOwn", fn := fun _ => fun
  | [d1, d2] => { results := [.lit (.bool false)], args := [d1, d2] }
  | _ => none }
def BoardOwnWrongFalsely : Prop := boardOwnRow.holds Try.pinned (OpenSpec.ofChange boardOwnWrong)

/-- 'deadheatkeep.OwnMemory': WHATEVER THE INPUT: true; the input reads as it did. -/
def ownMemorySpec : ChangeSpec := { name := "ownMemory", fn := fun _ => fun
  | [d1, d2] => { results := [.lit (.bool true)], args := [d1, d2] }
  | _ => none }
def ownMemoryRow : OpenClaim := { program := "ytfaoehpmkhmdhaa", sum := "9a09c553425683eca9cd2b52ceb93dad88755413734879970c9ffefac02abf3b", func := "deadheat/deadheatkeep.OwnMemory", spec := "ownMemory", unfollowed := true, recurses := true, plainKeys := false, apart := false }
def OwnMemorySaid : Prop := ownMemoryRow.holds Try.pinned (OpenSpec.ofChange ownMemorySpec)

/-- ITS FALSE NEIGHBOUR: 'it returns false'. Refute it at one input. -/
def ownMemoryWrong : ChangeSpec := { name := "ownMemory", fn := fun _ => fun
  | [d1, d2] => { results := [.lit (.bool false)], args := [d1, d2] }
  | _ => none }
def OwnMemoryWrongFalsely : Prop := ownMemoryRow.holds Try.pinned (OpenSpec.ofChange ownMemoryWrong)

/- THE SECOND FORM. 'bulk': how many values and letters a reading holds, each counted each time it is reached (what is shared counts as often as it is met; a slice's spare places count too). A statement '..UptoSaid' is the law's where the arguments, and the package variables that the reading takes, are together of bulk at most 1048576: NARROWER than '..Said'. Prove '..Said' where nothing that the law and all that it calls make is longer than what came in: it says more and counts as full. Else prove '..UptoSaid'. A law counts once. -/
mutual
def uptoBulk {H : Type} : DataW H → Nat
  | .lit (.string bytes) => bytes.length + 1
  | .lit _ => 1
  | .nil => 1
  | .ptr d => uptoBulk d + 1
  | .slice elems spare => uptoBulkAll elems + uptoBulkAll spare + 1
  | .agg parts => uptoBulkAll parts + 1
  | .iface _ d => uptoBulk d + 1
  | .map entries => uptoBulkEntries entries + 1
  | .held _ => 1
def uptoBulkAll {H : Type} : List (DataW H) → Nat
  | [] => 0
  | d :: r => uptoBulk d + uptoBulkAll r
def uptoBulkEntries {H : Type} : List (Lit × DataW H) → Nat
  | [] => 0
  | x :: r => uptoBulkEntry x + uptoBulkEntries r
def uptoBulkEntry {H : Type} : Lit × DataW H → Nat
  | (.string bytes, d) => bytes.length + uptoBulk d + 1
  | (_, d) => uptoBulk d + 1
 end
def uptoSmall : (H : Type) → List (DataW H) → Bool := fun _ ds => decide (uptoBulkAll ds ≤ 1048576)
def OpenSpec.upto (s : _root_.Go.ChangeSpec) : _root_.Go.OpenSpec := { _root_.Go.OpenSpec.ofChange s with cond := some uptoSmall }

/-- 'deadheatkeep.ClockLattice', WHERE WHAT IT READS IS OF BULK AT MOST 1048576: true; the input reads as it did. -/
def clockLatticeUptoRow : OpenClaim := { program := "ytfaoehpmkhmdhaa", sum := "9a09c553425683eca9cd2b52ceb93dad88755413734879970c9ffefac02abf3b", func := "deadheat/deadheatkeep.ClockLattice", spec := "clockLattice", unfollowed := true, recurses := true, plainKeys := false, apart := false, narrowed := true }
def ClockLatticeUptoSaid : Prop := clockLatticeUptoRow.holds Try.pinned (OpenSpec.upto clockLatticeSpec)

/-- 'deadheatkeep.GuardFront', WHERE WHAT IT READS IS OF BULK AT MOST 1048576: true; the input reads as it did. -/
def guardFrontUptoRow : OpenClaim := { program := "ytfaoehpmkhmdhaa", sum := "9a09c553425683eca9cd2b52ceb93dad88755413734879970c9ffefac02abf3b", func := "deadheat/deadheatkeep.GuardFront", spec := "guardFront", unfollowed := true, recurses := true, plainKeys := false, apart := false, narrowed := true }
def GuardFrontUptoSaid : Prop := guardFrontUptoRow.holds Try.pinned (OpenSpec.upto guardFrontSpec)

/-- 'deadheatkeep.GuardKeeps', WHERE WHAT IT READS IS OF BULK AT MOST 1048576: true; the input reads as it did. -/
def guardKeepsUptoRow : OpenClaim := { program := "ytfaoehpmkhmdhaa", sum := "9a09c553425683eca9cd2b52ceb93dad88755413734879970c9ffefac02abf3b", func := "deadheat/deadheatkeep.GuardKeeps", spec := "guardKeeps", unfollowed := true, recurses := true, plainKeys := false, apart := false, narrowed := true }
def GuardKeepsUptoSaid : Prop := guardKeepsUptoRow.holds Try.pinned (OpenSpec.upto guardKeepsSpec)

/-- 'deadheatkeep.GuardStates', WHERE WHAT IT READS IS OF BULK AT MOST 1048576: true; the input reads as it did. -/
def guardStatesUptoRow : OpenClaim := { program := "ytfaoehpmkhmdhaa", sum := "9a09c553425683eca9cd2b52ceb93dad88755413734879970c9ffefac02abf3b", func := "deadheat/deadheatkeep.GuardStates", spec := "guardStates", unfollowed := true, recurses := true, plainKeys := false, apart := false, narrowed := true }
def GuardStatesUptoSaid : Prop := guardStatesUptoRow.holds Try.pinned (OpenSpec.upto guardStatesSpec)

/-- 'deadheatkeep.GuardOne', WHERE WHAT IT READS IS OF BULK AT MOST 1048576: true; the input reads as it did. -/
def guardOneUptoRow : OpenClaim := { program := "ytfaoehpmkhmdhaa", sum := "9a09c553425683eca9cd2b52ceb93dad88755413734879970c9ffefac02abf3b", func := "deadheat/deadheatkeep.GuardOne", spec := "guardOne", unfollowed := true, recurses := true, plainKeys := false, apart := false, narrowed := true }
def GuardOneUptoSaid : Prop := guardOneUptoRow.holds Try.pinned (OpenSpec.upto guardOneSpec)

/-- 'deadheatkeep.GuardSafe', WHERE WHAT IT READS IS OF BULK AT MOST 1048576: true; the input reads as it did. -/
def guardSafeUptoRow : OpenClaim := { program := "ytfaoehpmkhmdhaa", sum := "9a09c553425683eca9cd2b52ceb93dad88755413734879970c9ffefac02abf3b", func := "deadheat/deadheatkeep.GuardSafe", spec := "guardSafe", unfollowed := true, recurses := true, plainKeys := false, apart := false, narrowed := true }
def GuardSafeUptoSaid : Prop := guardSafeUptoRow.holds Try.pinned (OpenSpec.upto guardSafeSpec)

/-- 'deadheatkeep.BoardOwn', WHERE WHAT IT READS IS OF BULK AT MOST 1048576: true; the input reads as it did. -/
def boardOwnUptoRow : OpenClaim := { program := "ytfaoehpmkhmdhaa", sum := "9a09c553425683eca9cd2b52ceb93dad88755413734879970c9ffefac02abf3b", func := "deadheat/deadheatkeep.BoardOwn", spec := "boardOwn", inPlace := ["(*sync.RWMutex).Lock", "internal/race.Read", "internal/race.Disable", "(*internal/sync.Mutex).Lock", "sync/atomic.CompareAndSwapInt32", "internal/race.Enable", "internal/race.Acquire", "(*internal/sync.Mutex).lockSlow", "internal/sync.runtime_canSpin", "internal/sync.runtime_doSpin", "internal/sync.throw", "internal/sync.runtime_nanotime", "internal/sync.runtime_SemacquireMutex", "sync/atomic.AddInt32", "sync.runtime_SemacquireRWMutex", "(*sync.RWMutex).Unlock", "internal/race.Release", "internal/race.ReleaseMerge", "sync.fatal", "sync.runtime_Semrelease", "(*internal/sync.Mutex).Unlock", "(*internal/sync.Mutex).unlockSlow", "internal/sync.fatal", "internal/sync.runtime_Semrelease", "(*sync.RWMutex).RLock", "sync.runtime_SemacquireRWMutexR", "(*sync.RWMutex).RUnlock", "(*sync.RWMutex).rUnlockSlow"], plainKeys := false, apart := false, narrowed := true }
def BoardOwnUptoSaid : Prop := boardOwnUptoRow.holds Try.pinned (OpenSpec.upto boardOwnSpec)

/-- 'deadheatkeep.OwnMemory', WHERE WHAT IT READS IS OF BULK AT MOST 1048576: true; the input reads as it did. -/
def ownMemoryUptoRow : OpenClaim := { program := "ytfaoehpmkhmdhaa", sum := "9a09c553425683eca9cd2b52ceb93dad88755413734879970c9ffefac02abf3b", func := "deadheat/deadheatkeep.OwnMemory", spec := "ownMemory", unfollowed := true, recurses := true, plainKeys := false, apart := false, narrowed := true }
def OwnMemoryUptoSaid : Prop := ownMemoryUptoRow.holds Try.pinned (OpenSpec.upto ownMemorySpec)

end Rows
end Go.Proofs.Ytfaoehpmkhmdhaa
