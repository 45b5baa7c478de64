/-
  No cell of these rows narrows 'for every input' (looked for: loops, veiled, ifaces, maps, wideKeys, modest, calm, conditions, laid).
  DERIVED. THE GIVEN ROWS OF THIS SEAT. 9 by the template 'for every input the law returns true; each argument reads behind the call as it read before'; 0 by the template 'total and deterministic' (their statements: YtdhbgbneadcmiaaTotals.lean).
  GIVEN WITH THE SEED: the statements are not yours to turn. If you find one false, say at which input.
  Laid BY PROGRAM, IN A SANDBOX (cutbox-rows.mjs): the forced cells as the released guide's own fill.sh prints them over the translation d7ce81b2fe5e2328… (all of the seat's roots in one cut). By AI agents, Wed Nov 11 2026. No macro, syntax, notation, axiom, sorry.
-/
import Derived.Test.YtdhbgbneadcmiaaChecked
import GoSem.Claim
import GoSem.ClaimJoined
import GoSem.ClaimMapViews
import Derived.JoinedTies
import Derived.KernelRfl
namespace Go.Proofs.Ytdhbgbneadcmiaa
/- THE CELL 'sum', in the pinned program and in every row, IS THE sha256 OF THE DUMP (.gsa) THAT YtdhbgbneadcmiaaProg.lean LOADS. Nothing in Lean hashes anything: it is a label: what it is worth is what the hold of that sum in a sandbox is worth. -/
noncomputable def Try.pinned : Pinned := { name := "ytdhbgbneadcmiaa", sum := "d7ce81b2fe5e23282c46416186f505536a65f31516ae1d2f0017a4c7cf41f2ab", checked := Try.checked }
namespace Rows
def none {H : Type} : Left H := { results := [], args := [] }

/-- 'deadheatkeep.RaceSums': WHATEVER THE INPUT: true; the input reads as it did. -/
def raceSumsSpec : ChangeSpec := { name := "raceSums", fn := fun _ => fun
  | [d] => { results := [.lit (.bool true)], args := [d] }
  | _ => none }
def raceSumsRow : OpenClaim := { program := "ytdhbgbneadcmiaa", sum := "d7ce81b2fe5e23282c46416186f505536a65f31516ae1d2f0017a4c7cf41f2ab", func := "deadheat/deadheatkeep.RaceSums", spec := "raceSums", unfollowed := true, recurses := true, plainKeys := false, apart := false }
def RaceSumsSaid : Prop := raceSumsRow.holds Try.pinned (OpenSpec.ofChange raceSumsSpec)

/-- ITS FALSE NEIGHBOUR: 'it returns false'. Refute it at one input. -/
def raceSumsWrong : ChangeSpec := { name := "raceSums", fn := fun _ => fun
  | [d] => { results := [.lit (.bool false)], args := [d] }
  | _ => none }
def RaceSumsWrongFalsely : Prop := raceSumsRow.holds Try.pinned (OpenSpec.ofChange raceSumsWrong)

/-- 'deadheatkeep.ShrinkRaces': WHATEVER THE INPUT: true; the input reads as it did. -/
def shrinkRacesSpec : ChangeSpec := { name := "shrinkRaces", fn := fun _ => fun
  | [d] => { results := [.lit (.bool true)], args := [d] }
  | _ => none }
def shrinkRacesRow : OpenClaim := { program := "ytdhbgbneadcmiaa", sum := "d7ce81b2fe5e23282c46416186f505536a65f31516ae1d2f0017a4c7cf41f2ab", func := "deadheat/deadheatkeep.ShrinkRaces", spec := "shrinkRaces", unfollowed := true, recurses := true, plainKeys := false, apart := false }
def ShrinkRacesSaid : Prop := shrinkRacesRow.holds Try.pinned (OpenSpec.ofChange shrinkRacesSpec)

/-- ITS FALSE NEIGHBOUR: 'it returns false'. Refute it at one input. -/
def shrinkRacesWrong : ChangeSpec := { name := "shrinkRaces", fn := fun _ => fun
  | [d] => { results := [.lit (.bool false)], args := [d] }
  | _ => none }
def ShrinkRacesWrongFalsely : Prop := shrinkRacesRow.holds Try.pinned (OpenSpec.ofChange shrinkRacesWrong)

/-- 'deadheatkeep.ShrinkBare': WHATEVER THE INPUT: true; the input reads as it did. -/
def shrinkBareSpec : ChangeSpec := { name := "shrinkBare", fn := fun _ => fun
  | [d] => { results := [.lit (.bool true)], args := [d] }
  | _ => none }
def shrinkBareRow : OpenClaim := { program := "ytdhbgbneadcmiaa", sum := "d7ce81b2fe5e23282c46416186f505536a65f31516ae1d2f0017a4c7cf41f2ab", func := "deadheat/deadheatkeep.ShrinkBare", spec := "shrinkBare", unfollowed := true, recurses := true, plainKeys := false, apart := false }
def ShrinkBareSaid : Prop := shrinkBareRow.holds Try.pinned (OpenSpec.ofChange shrinkBareSpec)

/-- ITS FALSE NEIGHBOUR: 'it returns false'. Refute it at one input. -/
def shrinkBareWrong : ChangeSpec := { name := "shrinkBare", fn := fun _ => fun
  | [d] => { results := [.lit (.bool false)], args := [d] }
  | _ => none }
def ShrinkBareWrongFalsely : Prop := shrinkBareRow.holds Try.pinned (OpenSpec.ofChange shrinkBareWrong)

/-- 'deadheatkeep.ShrinkAgain': WHATEVER THE INPUT: true; the input reads as it did. -/
def shrinkAgainSpec : ChangeSpec := { name := "shrinkAgain", fn := fun _ => fun
  | [d] => { results := [.lit (.bool true)], args := [d] }
  | _ => none }
def shrinkAgainRow : OpenClaim := { program := "ytdhbgbneadcmiaa", sum := "d7ce81b2fe5e23282c46416186f505536a65f31516ae1d2f0017a4c7cf41f2ab", func := "deadheat/deadheatkeep.ShrinkAgain", spec := "shrinkAgain", unfollowed := true, recurses := true, plainKeys := false, apart := false }
def ShrinkAgainSaid : Prop := shrinkAgainRow.holds Try.pinned (OpenSpec.ofChange shrinkAgainSpec)

/-- ITS FALSE NEIGHBOUR: 'it returns false'. Refute it at one input. -/
def shrinkAgainWrong : ChangeSpec := { name := "shrinkAgain", fn := fun _ => fun
  | [d] => { results := [.lit (.bool false)], args := [d] }
  | _ => none }
def ShrinkAgainWrongFalsely : Prop := shrinkAgainRow.holds Try.pinned (OpenSpec.ofChange shrinkAgainWrong)

/-- 'deadheatkeep.ShrinkSmall': WHATEVER THE INPUT: true; the input reads as it did. -/
def shrinkSmallSpec : ChangeSpec := { name := "shrinkSmall", fn := fun _ => fun
  | [d] => { results := [.lit (.bool true)], args := [d] }
  | _ => none }
def shrinkSmallRow : OpenClaim := { program := "ytdhbgbneadcmiaa", sum := "d7ce81b2fe5e23282c46416186f505536a65f31516ae1d2f0017a4c7cf41f2ab", func := "deadheat/deadheatkeep.ShrinkSmall", spec := "shrinkSmall", unfollowed := true, recurses := true, plainKeys := false, apart := false }
def ShrinkSmallSaid : Prop := shrinkSmallRow.holds Try.pinned (OpenSpec.ofChange shrinkSmallSpec)

/-- ITS FALSE NEIGHBOUR: 'it returns false'. Refute it at one input. -/
def shrinkSmallWrong : ChangeSpec := { name := "shrinkSmall", fn := fun _ => fun
  | [d] => { results := [.lit (.bool false)], args := [d] }
  | _ => none }
def ShrinkSmallWrongFalsely : Prop := shrinkSmallRow.holds Try.pinned (OpenSpec.ofChange shrinkSmallWrong)

/-- 'deadheatkeep.ShrinkFewer': WHATEVER THE INPUT: true; the input reads as it did. -/
def shrinkFewerSpec : ChangeSpec := { name := "shrinkFewer", fn := fun _ => fun
  | [d1, d2] => { results := [.lit (.bool true)], args := [d1, d2] }
  | _ => none }
def shrinkFewerRow : OpenClaim := { program := "ytdhbgbneadcmiaa", sum := "d7ce81b2fe5e23282c46416186f505536a65f31516ae1d2f0017a4c7cf41f2ab", func := "deadheat/deadheatkeep.ShrinkFewer", spec := "shrinkFewer", unfollowed := true, recurses := true, plainKeys := false, apart := false }
def ShrinkFewerSaid : Prop := shrinkFewerRow.holds Try.pinned (OpenSpec.ofChange shrinkFewerSpec)

/-- ITS FALSE NEIGHBOUR: 'it returns false'. Refute it at one input. -/
def shrinkFewerWrong : ChangeSpec := { name := "shrinkFewer", fn := fun _ => fun
  | [d1, d2] => { results := [.lit (.bool false)], args := [d1, d2] }
  | _ => none }
def ShrinkFewerWrongFalsely : Prop := shrinkFewerRow.holds Try.pinned (OpenSpec.ofChange shrinkFewerWrong)

/-- 'deadheatkeep.FullExact': WHATEVER THE INPUT: true; the input reads as it did. -/
def fullExactSpec : ChangeSpec := { name := "fullExact", fn := fun _ => fun
  | [d] => { results := [.lit (.bool true)], args := [d] }
  | _ => none }
def fullExactRow : OpenClaim := { program := "ytdhbgbneadcmiaa", sum := "d7ce81b2fe5e23282c46416186f505536a65f31516ae1d2f0017a4c7cf41f2ab", func := "deadheat/deadheatkeep.FullExact", spec := "fullExact", unfollowed := true, recurses := true, plainKeys := false, apart := false }
def FullExactSaid : Prop := fullExactRow.holds Try.pinned (OpenSpec.ofChange fullExactSpec)

/-- ITS FALSE NEIGHBOUR: 'it returns false'. Refute it at one input. -/
def fullExactWrong : ChangeSpec := { name := "fullExact", fn := fun _ => fun
  | [d] => { results := [.lit (.bool false)], args := [d] }
  | _ => none }
def FullExactWrongFalsely : Prop := fullExactRow.holds Try.pinned (OpenSpec.ofChange fullExactWrong)

/-- 'deadheatkeep.FastFirst': WHATEVER THE INPUT: true; the input reads as it did. -/
def fastFirstSpec : ChangeSpec := { name := "fastFirst", fn := fun _ => fun
  | [d] => { results := [.lit (.bool true)], args := [d] }
  | _ => none }
def fastFirstRow : OpenClaim := { program := "ytdhbgbneadcmiaa", sum := "d7ce81b2fe5e23282c46416186f505536a65f31516ae1d2f0017a4c7cf41f2ab", func := "deadheat/deadheatkeep.FastFirst", spec := "fastFirst", unfollowed := true, recurses := true, plainKeys := false, apart := false }
def FastFirstSaid : Prop := fastFirstRow.holds Try.pinned (OpenSpec.ofChange fastFirstSpec)

/-- ITS FALSE NEIGHBOUR: 'it returns false'. Refute it at one input. -/
def fastFirstWrong : ChangeSpec := { name := "fastFirst", fn := fun _ => fun
  | [d] => { results := [.lit (.bool false)], args := [d] }
  | _ => none }
def FastFirstWrongFalsely : Prop := fastFirstRow.holds Try.pinned (OpenSpec.ofChange fastFirstWrong)

/-- 'deadheatkeep.GuardSafe': WHATEVER THE INPUT: true; the input reads as it did. -/
def guardSafeSpec : ChangeSpec := { name := "guardSafe", fn := fun _ => fun
  | [d] => { results := [.lit (.bool true)], args := [d] }
  | _ => none }
def guardSafeRow : OpenClaim := { program := "ytdhbgbneadcmiaa", sum := "d7ce81b2fe5e23282c46416186f505536a65f31516ae1d2f0017a4c7cf41f2ab", func := "deadheat/deadheatkeep.GuardSafe", spec := "guardSafe", unfollowed := true, recurses := true, plainKeys := false, apart := false }
def GuardSafeSaid : Prop := guardSafeRow.holds Try.pinned (OpenSpec.ofChange guardSafeSpec)

/-- ITS FALSE NEIGHBOUR: 'it returns false'. Refute it at one input. -/
def guardSafeWrong : ChangeSpec := { name := "guardSafe", fn := fun _ => fun
  | [d] => { results := [.lit (.bool false)], args := [d] }
  | _ => none }
def GuardSafeWrongFalsely : Prop := guardSafeRow.holds Try.pinned (OpenSpec.ofChange guardSafeWrong)

/- THE SECOND FORM. 'bulk': how many values and letters a reading holds, each counted each time it is reached (what is shared counts as often as it is met; a slice's spare places count too). A statement '..UptoSaid' is the law's where the arguments, and the package variables that the reading takes, are together of bulk at most 1048576: NARROWER than '..Said'. Prove '..Said' where nothing that the law and all that it calls make is longer than what came in: it says more and counts as full. Else prove '..UptoSaid'. A law counts once. -/
mutual
def uptoBulk {H : Type} : DataW H → Nat
  | .lit (.string bytes) => bytes.length + 1
  | .lit _ => 1
  | .nil => 1
  | .ptr d => uptoBulk d + 1
  | .slice elems spare => uptoBulkAll elems + uptoBulkAll spare + 1
  | .agg parts => uptoBulkAll parts + 1
  | .iface _ d => uptoBulk d + 1
  | .map entries => uptoBulkEntries entries + 1
  | .held _ => 1
def uptoBulkAll {H : Type} : List (DataW H) → Nat
  | [] => 0
  | d :: r => uptoBulk d + uptoBulkAll r
def uptoBulkEntries {H : Type} : List (Lit × DataW H) → Nat
  | [] => 0
  | x :: r => uptoBulkEntry x + uptoBulkEntries r
def uptoBulkEntry {H : Type} : Lit × DataW H → Nat
  | (.string bytes, d) => bytes.length + uptoBulk d + 1
  | (_, d) => uptoBulk d + 1
 end
def uptoSmall : (H : Type) → List (DataW H) → Bool := fun _ ds => decide (uptoBulkAll ds ≤ 1048576)
def OpenSpec.upto (s : _root_.Go.ChangeSpec) : _root_.Go.OpenSpec := { _root_.Go.OpenSpec.ofChange s with cond := some uptoSmall }

/-- 'deadheatkeep.RaceSums', WHERE WHAT IT READS IS OF BULK AT MOST 1048576: true; the input reads as it did. -/
def raceSumsUptoRow : OpenClaim := { program := "ytdhbgbneadcmiaa", sum := "d7ce81b2fe5e23282c46416186f505536a65f31516ae1d2f0017a4c7cf41f2ab", func := "deadheat/deadheatkeep.RaceSums", spec := "raceSums", unfollowed := true, recurses := true, plainKeys := false, apart := false, narrowed := true }
def RaceSumsUptoSaid : Prop := raceSumsUptoRow.holds Try.pinned (OpenSpec.upto raceSumsSpec)

/-- 'deadheatkeep.ShrinkRaces', WHERE WHAT IT READS IS OF BULK AT MOST 1048576: true; the input reads as it did. -/
def shrinkRacesUptoRow : OpenClaim := { program := "ytdhbgbneadcmiaa", sum := "d7ce81b2fe5e23282c46416186f505536a65f31516ae1d2f0017a4c7cf41f2ab", func := "deadheat/deadheatkeep.ShrinkRaces", spec := "shrinkRaces", unfollowed := true, recurses := true, plainKeys := false, apart := false, narrowed := true }
def ShrinkRacesUptoSaid : Prop := shrinkRacesUptoRow.holds Try.pinned (OpenSpec.upto shrinkRacesSpec)

/-- 'deadheatkeep.ShrinkBare', WHERE WHAT IT READS IS OF BULK AT MOST 1048576: true; the input reads as it did. -/
def shrinkBareUptoRow : OpenClaim := { program := "ytdhbgbneadcmiaa", sum := "d7ce81b2fe5e23282c46416186f505536a65f31516ae1d2f0017a4c7cf41f2ab", func := "deadheat/deadheatkeep.ShrinkBare", spec := "shrinkBare", unfollowed := true, recurses := true, plainKeys := false, apart := false, narrowed := true }
def ShrinkBareUptoSaid : Prop := shrinkBareUptoRow.holds Try.pinned (OpenSpec.upto shrinkBareSpec)

/-- 'deadheatkeep.ShrinkAgain', WHERE WHAT IT READS IS OF BULK AT MOST 1048576: true; the input reads as it did. -/
def shrinkAgainUptoRow : OpenClaim := { program := "ytdhbgbneadcmiaa", sum := "d7ce81b2fe5e23282c46416186f505536a65f31516ae1d2f0017a4c7cf41f2ab", func := "deadheat/deadheatkeep.ShrinkAgain", spec := "shrinkAgain", unfollowed := true, recurses := true, plainKeys := false, apart := false, narrowed := true }
def ShrinkAgainUptoSaid : Prop := shrinkAgainUptoRow.holds Try.pinned (OpenSpec.upto shrinkAgainSpec)

/-- 'deadheatkeep.ShrinkSmall', WHERE WHAT IT READS IS OF BULK AT MOST 1048576: true; the input reads as it did. -/
def shrinkSmallUptoRow : OpenClaim := { program := "ytdhbgbneadcmiaa", sum := "d7ce81b2fe5e23282c46416186f505536a65f31516ae1d2f0017a4c7cf41f2ab", func := "deadheat/deadheatkeep.ShrinkSmall", spec := "shrinkSmall", unfollowed := true, recurses := true, plainKeys := false, apart := false, narrowed := true }
def ShrinkSmallUptoSaid : Prop := shrinkSmallUptoRow.holds Try.pinned (OpenSpec.upto shrinkSmallSpec)

/-- 'deadheatkeep.ShrinkFewer', WHERE WHAT IT READS IS OF BULK AT MOST 1048576: true; the input reads as it did. -/
def shrinkFewerUptoRow : OpenClaim := { program := "ytdhbgbneadcmiaa", sum := "d7ce81b2fe5e23282c46416186f505536a65f31516ae1d2f0017a4c7cf41f2ab", func := "deadheat/deadheatkeep.ShrinkFewer", spec := "shrinkFewer", unfollowed := true, recurses := true, plainKeys := false, apart := false, narrowed := true }
def ShrinkFewerUptoSaid : Prop := shrinkFewerUptoRow.holds Try.pinned (OpenSpec.upto shrinkFewerSpec)

/-- 'deadheatkeep.FullExact', WHERE WHAT IT READS IS OF BULK AT MOST 1048576: true; the input reads as it did. -/
def fullExactUptoRow : OpenClaim := { program := "ytdhbgbneadcmiaa", sum := "d7ce81b2fe5e23282c46416186f505536a65f31516ae1d2f0017a4c7cf41f2ab", func := "deadheat/deadheatkeep.FullExact", spec := "fullExact", unfollowed := true, recurses := true, plainKeys := false, apart := false, narrowed := true }
def FullExactUptoSaid : Prop := fullExactUptoRow.holds Try.pinned (OpenSpec.upto fullExactSpec)

/-- 'deadheatkeep.FastFirst', WHERE WHAT IT READS IS OF BULK AT MOST 1048576: true; the input reads as it did. -/
def fastFirstUptoRow : OpenClaim := { program := "ytdhbgbneadcmiaa", sum := "d7ce81b2fe5e23282c46416186f505536a65f31516ae1d2f0017a4c7cf41f2ab", func := "deadheat/deadheatkeep.FastFirst", spec := "fastFirst", unfollowed := true, recurses := true, plainKeys := false, apart := false, narrowed := true }
def FastFirstUptoSaid : Prop := fastFirstUptoRow.holds Try.pinned (OpenSpec.upto fastFirstSpec)

/-- 'deadheatkeep.GuardSafe', WHERE WHAT IT READS IS OF BULK AT MOST 1048576: true; the input reads as it did. -/
def guardSafeUptoRow : OpenClaim := { program := "ytdhbgbneadcmiaa", sum := "d7ce81b2fe5e23282c46416186f505536a65f31516ae1d2f0017a4c7cf41f2ab", func := "deadheat/deadheatkeep.GuardSafe", spec := "guardSafe", unfollowed := true, recurses := true, plainKeys := false, apart := false, narrowed := true }
def GuardSafeUptoSaid : Prop := guardSafeUptoRow.holds Try.pinned (OpenSpec.upto guardSafeSpec)

end Rows
end Go.Proofs.Ytdhbgbneadcmiaa
