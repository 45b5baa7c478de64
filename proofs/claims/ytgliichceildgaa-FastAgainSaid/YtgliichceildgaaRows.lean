/-
  No cell of these rows narrows 'for every input' (looked for: loops, veiled, ifaces, maps, wideKeys, modest, calm, conditions, laid).
  DERIVED. THE GIVEN ROWS OF THIS SEAT. 12 by the template 'for every input the law returns true; each argument reads behind the call as it read before'; 0 by the template 'total and deterministic' (their statements: YtgliichceildgaaTotals.lean).
  GIVEN WITH THE SEED: the statements are not yours to turn. If you find one false, say at which input.
  Laid BY PROGRAM, IN A SANDBOX (cutbox-rows.mjs): the forced cells as the released guide's own fill.sh prints them over the translation cd85963ae8b551ee… (all of the seat's roots in one cut). By AI agents, Wed Nov 11 2026. No macro, syntax, notation, axiom, sorry.
-/
import Derived.Test.YtgliichceildgaaChecked
import GoSem.Claim
import GoSem.ClaimJoined
import GoSem.ClaimMapViews
import Derived.JoinedTies
import Derived.KernelRfl
namespace Go.Proofs.Ytgliichceildgaa
/- THE CELL 'sum', in the pinned program and in every row, IS THE sha256 OF THE DUMP (.gsa) THAT YtgliichceildgaaProg.lean LOADS. Nothing in Lean hashes anything: it is a label: what it is worth is what the hold of that sum in a sandbox is worth. -/
noncomputable def Try.pinned : Pinned := { name := "ytgliichceildgaa", sum := "cd85963ae8b551ee35874498fb00e890f15d7014afd83efc9c1fb61f27537f59", checked := Try.checked }
namespace Rows
def none {H : Type} : Left H := { results := [], args := [] }

/-- 'deadheatkeep.RacePairs': WHATEVER THE INPUT: true; the input reads as it did. -/
def racePairsSpec : ChangeSpec := { name := "racePairs", fn := fun _ => fun
  | [d] => { results := [.lit (.bool true)], args := [d] }
  | _ => none }
def racePairsRow : OpenClaim := { program := "ytgliichceildgaa", sum := "cd85963ae8b551ee35874498fb00e890f15d7014afd83efc9c1fb61f27537f59", func := "deadheat/deadheatkeep.RacePairs", spec := "racePairs", unfollowed := true, recurses := true, plainKeys := false, apart := false }
def RacePairsSaid : Prop := racePairsRow.holds Try.pinned (OpenSpec.ofChange racePairsSpec)

/-- ITS FALSE NEIGHBOUR: 'it returns false'. Refute it at one input. -/
def racePairsWrong : ChangeSpec := { name := "racePairs", fn := fun _ => fun
  | [d] => { results := [.lit (.bool false)], args := [d] }
  | _ => none }
def RacePairsWrongFalsely : Prop := racePairsRow.holds Try.pinned (OpenSpec.ofChange racePairsWrong)

/-- 'deadheatkeep.RaceFront': WHATEVER THE INPUT: true; the input reads as it did. -/
def raceFrontSpec : ChangeSpec := { name := "raceFront", fn := fun _ => fun
  | [d1, d2] => { results := [.lit (.bool true)], args := [d1, d2] }
  | _ => none }
def raceFrontRow : OpenClaim := { program := "ytgliichceildgaa", sum := "cd85963ae8b551ee35874498fb00e890f15d7014afd83efc9c1fb61f27537f59", func := "deadheat/deadheatkeep.RaceFront", spec := "raceFront", unfollowed := true, recurses := true, plainKeys := false, apart := false }
def RaceFrontSaid : Prop := raceFrontRow.holds Try.pinned (OpenSpec.ofChange raceFrontSpec)

/-- ITS FALSE NEIGHBOUR: 'it returns false'. Refute it at one input. -/
def raceFrontWrong : ChangeSpec := { name := "raceFront", fn := fun _ => fun
  | [d1, d2] => { results := [.lit (.bool false)], args := [d1, d2] }
  | _ => none }
def RaceFrontWrongFalsely : Prop := raceFrontRow.holds Try.pinned (OpenSpec.ofChange raceFrontWrong)

/-- 'deadheatkeep.RaceOne': WHATEVER THE INPUT: true; the input reads as it did. -/
def raceOneSpec : ChangeSpec := { name := "raceOne", fn := fun _ => fun
  | [d] => { results := [.lit (.bool true)], args := [d] }
  | _ => none }
def raceOneRow : OpenClaim := { program := "ytgliichceildgaa", sum := "cd85963ae8b551ee35874498fb00e890f15d7014afd83efc9c1fb61f27537f59", func := "deadheat/deadheatkeep.RaceOne", spec := "raceOne", unfollowed := true, recurses := true, plainKeys := false, apart := false }
def RaceOneSaid : Prop := raceOneRow.holds Try.pinned (OpenSpec.ofChange raceOneSpec)

/-- ITS FALSE NEIGHBOUR: 'it returns false'. Refute it at one input. -/
def raceOneWrong : ChangeSpec := { name := "raceOne", fn := fun _ => fun
  | [d] => { results := [.lit (.bool false)], args := [d] }
  | _ => none }
def RaceOneWrongFalsely : Prop := raceOneRow.holds Try.pinned (OpenSpec.ofChange raceOneWrong)

/-- 'deadheatkeep.RaceGuarded': WHATEVER THE INPUT: true; the input reads as it did. -/
def raceGuardedSpec : ChangeSpec := { name := "raceGuarded", fn := fun _ => fun
  | [d1, d2] => { results := [.lit (.bool true)], args := [d1, d2] }
  | _ => none }
def raceGuardedRow : OpenClaim := { program := "ytgliichceildgaa", sum := "cd85963ae8b551ee35874498fb00e890f15d7014afd83efc9c1fb61f27537f59", func := "deadheat/deadheatkeep.RaceGuarded", spec := "raceGuarded", unfollowed := true, recurses := true, plainKeys := false, apart := false }
def RaceGuardedSaid : Prop := raceGuardedRow.holds Try.pinned (OpenSpec.ofChange raceGuardedSpec)

/-- ITS FALSE NEIGHBOUR: 'it returns false'. Refute it at one input. -/
def raceGuardedWrong : ChangeSpec := { name := "raceGuarded", fn := fun _ => fun
  | [d1, d2] => { results := [.lit (.bool false)], args := [d1, d2] }
  | _ => none }
def RaceGuardedWrongFalsely : Prop := raceGuardedRow.holds Try.pinned (OpenSpec.ofChange raceGuardedWrong)

/-- 'deadheatkeep.FullFront': WHATEVER THE INPUT: true; the input reads as it did. -/
def fullFrontSpec : ChangeSpec := { name := "fullFront", fn := fun _ => fun
  | [d1, d2] => { results := [.lit (.bool true)], args := [d1, d2] }
  | _ => none }
def fullFrontRow : OpenClaim := { program := "ytgliichceildgaa", sum := "cd85963ae8b551ee35874498fb00e890f15d7014afd83efc9c1fb61f27537f59", func := "deadheat/deadheatkeep.FullFront", spec := "fullFront", unfollowed := true, recurses := true, plainKeys := false, apart := false }
def FullFrontSaid : Prop := fullFrontRow.holds Try.pinned (OpenSpec.ofChange fullFrontSpec)

/-- ITS FALSE NEIGHBOUR: 'it returns false'. Refute it at one input. -/
def fullFrontWrong : ChangeSpec := { name := "fullFront", fn := fun _ => fun
  | [d1, d2] => { results := [.lit (.bool false)], args := [d1, d2] }
  | _ => none }
def FullFrontWrongFalsely : Prop := fullFrontRow.holds Try.pinned (OpenSpec.ofChange fullFrontWrong)

/-- 'deadheatkeep.FullSeen': WHATEVER THE INPUT: true; the input reads as it did. -/
def fullSeenSpec : ChangeSpec := { name := "fullSeen", fn := fun _ => fun
  | [d1, d2] => { results := [.lit (.bool true)], args := [d1, d2] }
  | _ => none }
def fullSeenRow : OpenClaim := { program := "ytgliichceildgaa", sum := "cd85963ae8b551ee35874498fb00e890f15d7014afd83efc9c1fb61f27537f59", func := "deadheat/deadheatkeep.FullSeen", spec := "fullSeen", unfollowed := true, recurses := true, plainKeys := false, apart := false }
def FullSeenSaid : Prop := fullSeenRow.holds Try.pinned (OpenSpec.ofChange fullSeenSpec)

/-- ITS FALSE NEIGHBOUR: 'it returns false'. Refute it at one input. -/
def fullSeenWrong : ChangeSpec := { name := "fullSeen", fn := fun _ => fun
  | [d1, d2] => { results := [.lit (.bool false)], args := [d1, d2] }
  | _ => none }
def FullSeenWrongFalsely : Prop := fullSeenRow.holds Try.pinned (OpenSpec.ofChange fullSeenWrong)

/-- 'deadheatkeep.FastVars': WHATEVER THE INPUT: true; the input reads as it did. -/
def fastVarsSpec : ChangeSpec := { name := "fastVars", fn := fun _ => fun
  | [d1, d2] => { results := [.lit (.bool true)], args := [d1, d2] }
  | _ => none }
def fastVarsRow : OpenClaim := { program := "ytgliichceildgaa", sum := "cd85963ae8b551ee35874498fb00e890f15d7014afd83efc9c1fb61f27537f59", func := "deadheat/deadheatkeep.FastVars", spec := "fastVars", unfollowed := true, recurses := true, plainKeys := false, apart := false }
def FastVarsSaid : Prop := fastVarsRow.holds Try.pinned (OpenSpec.ofChange fastVarsSpec)

/-- ITS FALSE NEIGHBOUR: 'it returns false'. Refute it at one input. -/
def fastVarsWrong : ChangeSpec := { name := "fastVars", fn := fun _ => fun
  | [d1, d2] => { results := [.lit (.bool false)], args := [d1, d2] }
  | _ => none }
def FastVarsWrongFalsely : Prop := fastVarsRow.holds Try.pinned (OpenSpec.ofChange fastVarsWrong)

/-- 'deadheatkeep.FastAgain': WHATEVER THE INPUT: true; the input reads as it did. -/
def fastAgainSpec : ChangeSpec := { name := "fastAgain", fn := fun _ => fun
  | [d1, d2] => { results := [.lit (.bool true)], args := [d1, d2] }
  | _ => none }
def fastAgainRow : OpenClaim := { program := "ytgliichceildgaa", sum := "cd85963ae8b551ee35874498fb00e890f15d7014afd83efc9c1fb61f27537f59", func := "deadheat/deadheatkeep.FastAgain", spec := "fastAgain", unfollowed := true, recurses := true, plainKeys := false, apart := false }
def FastAgainSaid : Prop := fastAgainRow.holds Try.pinned (OpenSpec.ofChange fastAgainSpec)

/-- ITS FALSE NEIGHBOUR: 'it returns false'. Refute it at one input. -/
def fastAgainWrong : ChangeSpec := { name := "fastAgain", fn := fun _ => fun
  | [d1, d2] => { results := [.lit (.bool false)], args := [d1, d2] }
  | _ => none }
def FastAgainWrongFalsely : Prop := fastAgainRow.holds Try.pinned (OpenSpec.ofChange fastAgainWrong)

/-- 'deadheatkeep.FastFront': WHATEVER THE INPUT: true; the input reads as it did. -/
def fastFrontSpec : ChangeSpec := { name := "fastFront", fn := fun _ => fun
  | [d1, d2] => { results := [.lit (.bool true)], args := [d1, d2] }
  | _ => none }
def fastFrontRow : OpenClaim := { program := "ytgliichceildgaa", sum := "cd85963ae8b551ee35874498fb00e890f15d7014afd83efc9c1fb61f27537f59", func := "deadheat/deadheatkeep.FastFront", spec := "fastFront", unfollowed := true, recurses := true, plainKeys := false, apart := false }
def FastFrontSaid : Prop := fastFrontRow.holds Try.pinned (OpenSpec.ofChange fastFrontSpec)

/-- ITS FALSE NEIGHBOUR: 'it returns false'. Refute it at one input. -/
def fastFrontWrong : ChangeSpec := { name := "fastFront", fn := fun _ => fun
  | [d1, d2] => { results := [.lit (.bool false)], args := [d1, d2] }
  | _ => none }
def FastFrontWrongFalsely : Prop := fastFrontRow.holds Try.pinned (OpenSpec.ofChange fastFrontWrong)

/-- 'deadheatkeep.FastOne': WHATEVER THE INPUT: true; the input reads as it did. -/
def fastOneSpec : ChangeSpec := { name := "fastOne", fn := fun _ => fun
  | [d] => { results := [.lit (.bool true)], args := [d] }
  | _ => none }
def fastOneRow : OpenClaim := { program := "ytgliichceildgaa", sum := "cd85963ae8b551ee35874498fb00e890f15d7014afd83efc9c1fb61f27537f59", func := "deadheat/deadheatkeep.FastOne", spec := "fastOne", unfollowed := true, recurses := true, plainKeys := false, apart := false }
def FastOneSaid : Prop := fastOneRow.holds Try.pinned (OpenSpec.ofChange fastOneSpec)

/-- ITS FALSE NEIGHBOUR: 'it returns false'. Refute it at one input. -/
def fastOneWrong : ChangeSpec := { name := "fastOne", fn := fun _ => fun
  | [d] => { results := [.lit (.bool false)], args := [d] }
  | _ => none }
def FastOneWrongFalsely : Prop := fastOneRow.holds Try.pinned (OpenSpec.ofChange fastOneWrong)

/-- 'deadheatkeep.FastTrue': WHATEVER THE INPUT: true; the input reads as it did. -/
def fastTrueSpec : ChangeSpec := { name := "fastTrue", fn := fun _ => fun
  | [d] => { results := [.lit (.bool true)], args := [d] }
  | _ => none }
def fastTrueRow : OpenClaim := { program := "ytgliichceildgaa", sum := "cd85963ae8b551ee35874498fb00e890f15d7014afd83efc9c1fb61f27537f59", func := "deadheat/deadheatkeep.FastTrue", spec := "fastTrue", unfollowed := true, recurses := true, plainKeys := false, apart := false }
def FastTrueSaid : Prop := fastTrueRow.holds Try.pinned (OpenSpec.ofChange fastTrueSpec)

/-- ITS FALSE NEIGHBOUR: 'it returns false'. Refute it at one input. -/
def fastTrueWrong : ChangeSpec := { name := "fastTrue", fn := fun _ => fun
  | [d] => { results := [.lit (.bool false)], args := [d] }
  | _ => none }
def FastTrueWrongFalsely : Prop := fastTrueRow.holds Try.pinned (OpenSpec.ofChange fastTrueWrong)

/-- 'deadheatkeep.FastNone': WHATEVER THE INPUT: true; the input reads as it did. -/
def fastNoneSpec : ChangeSpec := { name := "fastNone", fn := fun _ => fun
  | [d] => { results := [.lit (.bool true)], args := [d] }
  | _ => none }
def fastNoneRow : OpenClaim := { program := "ytgliichceildgaa", sum := "cd85963ae8b551ee35874498fb00e890f15d7014afd83efc9c1fb61f27537f59", func := "deadheat/deadheatkeep.FastNone", spec := "fastNone", unfollowed := true, recurses := true, plainKeys := false, apart := false }
def FastNoneSaid : Prop := fastNoneRow.holds Try.pinned (OpenSpec.ofChange fastNoneSpec)

/-- ITS FALSE NEIGHBOUR: 'it returns false'. Refute it at one input. -/
def fastNoneWrong : ChangeSpec := { name := "fastNone", fn := fun _ => fun
  | [d] => { results := [.lit (.bool false)], args := [d] }
  | _ => none }
def FastNoneWrongFalsely : Prop := fastNoneRow.holds Try.pinned (OpenSpec.ofChange fastNoneWrong)

/- THE SECOND FORM. 'bulk': how many values and letters a reading holds, each counted each time it is reached (what is shared counts as often as it is met; a slice's spare places count too). A statement '..UptoSaid' is the law's where the arguments, and the package variables that the reading takes, are together of bulk at most 1048576: NARROWER than '..Said'. Prove '..Said' where nothing that the law and all that it calls make is longer than what came in: it says more and counts as full. Else prove '..UptoSaid'. A law counts once. -/
mutual
def uptoBulk {H : Type} : DataW H → Nat
  | .lit (.string bytes) => bytes.length + 1
  | .lit _ => 1
  | .nil => 1
  | .ptr d => uptoBulk d + 1
  | .slice elems spare => uptoBulkAll elems + uptoBulkAll spare + 1
  | .agg parts => uptoBulkAll parts + 1
  | .iface _ d => uptoBulk d + 1
  | .map entries => uptoBulkEntries entries + 1
  | .held _ => 1
def uptoBulkAll {H : Type} : List (DataW H) → Nat
  | [] => 0
  | d :: r => uptoBulk d + uptoBulkAll r
def uptoBulkEntries {H : Type} : List (Lit × DataW H) → Nat
  | [] => 0
  | x :: r => uptoBulkEntry x + uptoBulkEntries r
def uptoBulkEntry {H : Type} : Lit × DataW H → Nat
  | (.string bytes, d) => bytes.length + uptoBulk d + 1
  | (_, d) => uptoBulk d + 1
 end
def uptoSmall : (H : Type) → List (DataW H) → Bool := fun _ ds => decide (uptoBulkAll ds ≤ 1048576)
def OpenSpec.upto (s : _root_.Go.ChangeSpec) : _root_.Go.OpenSpec := { _root_.Go.OpenSpec.ofChange s with cond := some uptoSmall }

/-- 'deadheatkeep.RacePairs', WHERE WHAT IT READS IS OF BULK AT MOST 1048576: true; the input reads as it did. -/
def racePairsUptoRow : OpenClaim := { program := "ytgliichceildgaa", sum := "cd85963ae8b551ee35874498fb00e890f15d7014afd83efc9c1fb61f27537f59", func := "deadheat/deadheatkeep.RacePairs", spec := "racePairs", unfollowed := true, recurses := true, plainKeys := false, apart := false, narrowed := true }
def RacePairsUptoSaid : Prop := racePairsUptoRow.holds Try.pinned (OpenSpec.upto racePairsSpec)

/-- 'deadheatkeep.RaceFront', WHERE WHAT IT READS IS OF BULK AT MOST 1048576: true; the input reads as it did. -/
def raceFrontUptoRow : OpenClaim := { program := "ytgliichceildgaa", sum := "cd85963ae8b551ee35874498fb00e890f15d7014afd83efc9c1fb61f27537f59", func := "deadheat/deadheatkeep.RaceFront", spec := "raceFront", unfollowed := true, recurses := true, plainKeys := false, apart := false, narrowed := true }
def RaceFrontUptoSaid : Prop := raceFrontUptoRow.holds Try.pinned (OpenSpec.upto raceFrontSpec)

/-- 'deadheatkeep.RaceOne', WHERE WHAT IT READS IS OF BULK AT MOST 1048576: true; the input reads as it did. -/
def raceOneUptoRow : OpenClaim := { program := "ytgliichceildgaa", sum := "cd85963ae8b551ee35874498fb00e890f15d7014afd83efc9c1fb61f27537f59", func := "deadheat/deadheatkeep.RaceOne", spec := "raceOne", unfollowed := true, recurses := true, plainKeys := false, apart := false, narrowed := true }
def RaceOneUptoSaid : Prop := raceOneUptoRow.holds Try.pinned (OpenSpec.upto raceOneSpec)

/-- 'deadheatkeep.RaceGuarded', WHERE WHAT IT READS IS OF BULK AT MOST 1048576: true; the input reads as it did. -/
def raceGuardedUptoRow : OpenClaim := { program := "ytgliichceildgaa", sum := "cd85963ae8b551ee35874498fb00e890f15d7014afd83efc9c1fb61f27537f59", func := "deadheat/deadheatkeep.RaceGuarded", spec := "raceGuarded", unfollowed := true, recurses := true, plainKeys := false, apart := false, narrowed := true }
def RaceGuardedUptoSaid : Prop := raceGuardedUptoRow.holds Try.pinned (OpenSpec.upto raceGuardedSpec)

/-- 'deadheatkeep.FullFront', WHERE WHAT IT READS IS OF BULK AT MOST 1048576: true; the input reads as it did. -/
def fullFrontUptoRow : OpenClaim := { program := "ytgliichceildgaa", sum := "cd85963ae8b551ee35874498fb00e890f15d7014afd83efc9c1fb61f27537f59", func := "deadheat/deadheatkeep.FullFront", spec := "fullFront", unfollowed := true, recurses := true, plainKeys := false, apart := false, narrowed := true }
def FullFrontUptoSaid : Prop := fullFrontUptoRow.holds Try.pinned (OpenSpec.upto fullFrontSpec)

/-- 'deadheatkeep.FullSeen', WHERE WHAT IT READS IS OF BULK AT MOST 1048576: true; the input reads as it did. -/
def fullSeenUptoRow : OpenClaim := { program := "ytgliichceildgaa", sum := "cd85963ae8b551ee35874498fb00e890f15d7014afd83efc9c1fb61f27537f59", func := "deadheat/deadheatkeep.FullSeen", spec := "fullSeen", unfollowed := true, recurses := true, plainKeys := false, apart := false, narrowed := true }
def FullSeenUptoSaid : Prop := fullSeenUptoRow.holds Try.pinned (OpenSpec.upto fullSeenSpec)

/-- 'deadheatkeep.FastVars', WHERE WHAT IT READS IS OF BULK AT MOST 1048576: true; the input reads as it did. -/
def fastVarsUptoRow : OpenClaim := { program := "ytgliichceildgaa", sum := "cd85963ae8b551ee35874498fb00e890f15d7014afd83efc9c1fb61f27537f59", func := "deadheat/deadheatkeep.FastVars", spec := "fastVars", unfollowed := true, recurses := true, plainKeys := false, apart := false, narrowed := true }
def FastVarsUptoSaid : Prop := fastVarsUptoRow.holds Try.pinned (OpenSpec.upto fastVarsSpec)

/-- 'deadheatkeep.FastAgain', WHERE WHAT IT READS IS OF BULK AT MOST 1048576: true; the input reads as it did. -/
def fastAgainUptoRow : OpenClaim := { program := "ytgliichceildgaa", sum := "cd85963ae8b551ee35874498fb00e890f15d7014afd83efc9c1fb61f27537f59", func := "deadheat/deadheatkeep.FastAgain", spec := "fastAgain", unfollowed := true, recurses := true, plainKeys := false, apart := false, narrowed := true }
def FastAgainUptoSaid : Prop := fastAgainUptoRow.holds Try.pinned (OpenSpec.upto fastAgainSpec)

/-- 'deadheatkeep.FastFront', WHERE WHAT IT READS IS OF BULK AT MOST 1048576: true; the input reads as it did. -/
def fastFrontUptoRow : OpenClaim := { program := "ytgliichceildgaa", sum := "cd85963ae8b551ee35874498fb00e890f15d7014afd83efc9c1fb61f27537f59", func := "deadheat/deadheatkeep.FastFront", spec := "fastFront", unfollowed := true, recurses := true, plainKeys := false, apart := false, narrowed := true }
def FastFrontUptoSaid : Prop := fastFrontUptoRow.holds Try.pinned (OpenSpec.upto fastFrontSpec)

/-- 'deadheatkeep.FastOne', WHERE WHAT IT READS IS OF BULK AT MOST 1048576: true; the input reads as it did. -/
def fastOneUptoRow : OpenClaim := { program := "ytgliichceildgaa", sum := "cd85963ae8b551ee35874498fb00e890f15d7014afd83efc9c1fb61f27537f59", func := "deadheat/deadheatkeep.FastOne", spec := "fastOne", unfollowed := true, recurses := true, plainKeys := false, apart := false, narrowed := true }
def FastOneUptoSaid : Prop := fastOneUptoRow.holds Try.pinned (OpenSpec.upto fastOneSpec)

/-- 'deadheatkeep.FastTrue', WHERE WHAT IT READS IS OF BULK AT MOST 1048576: true; the input reads as it did. -/
def fastTrueUptoRow : OpenClaim := { program := "ytgliichceildgaa", sum := "cd85963ae8b551ee35874498fb00e890f15d7014afd83efc9c1fb61f27537f59", func := "deadheat/deadheatkeep.FastTrue", spec := "fastTrue", unfollowed := true, recurses := true, plainKeys := false, apart := false, narrowed := true }
def FastTrueUptoSaid : Prop := fastTrueUptoRow.holds Try.pinned (OpenSpec.upto fastTrueSpec)

/-- 'deadheatkeep.FastNone', WHERE WHAT IT READS IS OF BULK AT MOST 1048576: true; the input reads as it did. -/
def fastNoneUptoRow : OpenClaim := { program := "ytgliichceildgaa", sum := "cd85963ae8b551ee35874498fb00e890f15d7014afd83efc9c1fb61f27537f59", func := "deadheat/deadheatkeep.FastNone", spec := "fastNone", unfollowed := true, recurses := true, plainKeys := false, apart := false, narrowed := true }
def FastNoneUptoSaid : Prop := fastNoneUptoRow.holds Try.pinned (OpenSpec.upto fastNoneSpec)

end Rows
end Go.Proofs.Ytgliichceildgaa
