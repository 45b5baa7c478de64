/-
  No cell of these rows narrows 'for every input' (looked for: loops, veiled, ifaces, maps, wideKeys, modest, calm, conditions, laid).
  DERIVED. THE GIVEN ROWS OF THIS SEAT. 12 by the template 'for every input the law returns true; each argument reads behind the call as it read before'; 0 by the template 'total and deterministic' (their statements: YthfeakfakjecoaaTotals.lean).
  GIVEN WITH THE SEED: the statements are not yours to turn. If you find one false, say at which input.
  Laid BY PROGRAM, IN A SANDBOX (cutbox-rows.mjs): the forced cells as the released guide's own fill.sh prints them over the translation b09bd2f441309158… (all of the seat's roots in one cut). By AI agents, Wed Nov 11 2026. No macro, syntax, notation, axiom, sorry.
-/
import Derived.Test.YthfeakfakjecoaaChecked
import GoSem.Claim
import GoSem.ClaimJoined
import GoSem.ClaimMapViews
import Derived.JoinedTies
import Derived.KernelRfl
namespace Go.Proofs.Ythfeakfakjecoaa
/- THE CELL 'sum', in the pinned program and in every row, IS THE sha256 OF THE DUMP (.gsa) THAT YthfeakfakjecoaaProg.lean LOADS. Nothing in Lean hashes anything: it is a label: what it is worth is what the hold of that sum in a sandbox is worth. -/
noncomputable def Try.pinned : Pinned := { name := "ythfeakfakjecoaa", sum := "b09bd2f4413091586838bce01fede4bd3a0880891a14ff0072a421453149a755", checked := Try.checked }
namespace Rows
def none {H : Type} : Left H := { results := [], args := [] }

/-- 'deadheatkeep.ProgPicks': WHATEVER THE INPUT: true; the input reads as it did. -/
def progPicksSpec : ChangeSpec := { name := "progPicks", fn := fun _ => fun
  | [d1, d2, d3, d4] => { results := [.lit (.bool true)], args := [d1, d2, d3, d4] }
  | _ => none }
def progPicksRow : OpenClaim := { program := "ythfeakfakjecoaa", sum := "b09bd2f4413091586838bce01fede4bd3a0880891a14ff0072a421453149a755", func := "deadheat/deadheatkeep.ProgPicks", spec := "progPicks", unfollowed := true, recurses := true, plainKeys := false, apart := false }
def ProgPicksSaid : Prop := progPicksRow.holds Try.pinned (OpenSpec.ofChange progPicksSpec)

/-- ITS FALSE NEIGHBOUR: 'it returns false'. Refute it at one input. -/
def progPicksWrong : ChangeSpec := { name := "progPicks", fn := fun _ => fun
  | [d1, d2, d3, d4] => { results := [.lit (.bool false)], args := [d1, d2, d3, d4] }
  | _ => none }
def ProgPicksWrongFalsely : Prop := progPicksRow.holds Try.pinned (OpenSpec.ofChange progPicksWrong)

/-- 'deadheatkeep.ProgOrder': WHATEVER THE INPUT: true; the input reads as it did. -/
def progOrderSpec : ChangeSpec := { name := "progOrder", fn := fun _ => fun
  | [d1, d2] => { results := [.lit (.bool true)], args := [d1, d2] }
  | _ => none }
def progOrderRow : OpenClaim := { program := "ythfeakfakjecoaa", sum := "b09bd2f4413091586838bce01fede4bd3a0880891a14ff0072a421453149a755", func := "deadheat/deadheatkeep.ProgOrder", spec := "progOrder", unfollowed := true, recurses := true, plainKeys := false, apart := false }
def ProgOrderSaid : Prop := progOrderRow.holds Try.pinned (OpenSpec.ofChange progOrderSpec)

/-- ITS FALSE NEIGHBOUR: 'it returns false'. Refute it at one input. -/
def progOrderWrong : ChangeSpec := { name := "progOrder", fn := fun _ => fun
  | [d1, d2] => { results := [.lit (.bool false)], args := [d1, d2] }
  | _ => none }
def ProgOrderWrongFalsely : Prop := progOrderRow.holds Try.pinned (OpenSpec.ofChange progOrderWrong)

/-- 'deadheatkeep.ProgOne': WHATEVER THE INPUT: true; the input reads as it did. -/
def progOneSpec : ChangeSpec := { name := "progOne", fn := fun _ => fun
  | [d] => { results := [.lit (.bool true)], args := [d] }
  | _ => none }
def progOneRow : OpenClaim := { program := "ythfeakfakjecoaa", sum := "b09bd2f4413091586838bce01fede4bd3a0880891a14ff0072a421453149a755", func := "deadheat/deadheatkeep.ProgOne", spec := "progOne", unfollowed := true, recurses := true, plainKeys := false, apart := false }
def ProgOneSaid : Prop := progOneRow.holds Try.pinned (OpenSpec.ofChange progOneSpec)

/-- ITS FALSE NEIGHBOUR: 'it returns false'. Refute it at one input. -/
def progOneWrong : ChangeSpec := { name := "progOne", fn := fun _ => fun
  | [d] => { results := [.lit (.bool false)], args := [d] }
  | _ => none }
def ProgOneWrongFalsely : Prop := progOneRow.holds Try.pinned (OpenSpec.ofChange progOneWrong)

/-- 'deadheatkeep.ProgSums': WHATEVER THE INPUT: true; the input reads as it did. -/
def progSumsSpec : ChangeSpec := { name := "progSums", fn := fun _ => fun
  | [d] => { results := [.lit (.bool true)], args := [d] }
  | _ => none }
def progSumsRow : OpenClaim := { program := "ythfeakfakjecoaa", sum := "b09bd2f4413091586838bce01fede4bd3a0880891a14ff0072a421453149a755", func := "deadheat/deadheatkeep.ProgSums", spec := "progSums", unfollowed := true, recurses := true, plainKeys := false, apart := false }
def ProgSumsSaid : Prop := progSumsRow.holds Try.pinned (OpenSpec.ofChange progSumsSpec)

/-- ITS FALSE NEIGHBOUR: 'it returns false'. Refute it at one input. -/
def progSumsWrong : ChangeSpec := { name := "progSums", fn := fun _ => fun
  | [d] => { results := [.lit (.bool false)], args := [d] }
  | _ => none }
def ProgSumsWrongFalsely : Prop := progSumsRow.holds Try.pinned (OpenSpec.ofChange progSumsWrong)

/-- 'deadheatkeep.ProgAlones': WHATEVER THE INPUT: true; the input reads as it did. -/
def progAlonesSpec : ChangeSpec := { name := "progAlones", fn := fun _ => fun
  | [d1, d2] => { results := [.lit (.bool true)], args := [d1, d2] }
  | _ => none }
def progAlonesRow : OpenClaim := { program := "ythfeakfakjecoaa", sum := "b09bd2f4413091586838bce01fede4bd3a0880891a14ff0072a421453149a755", func := "deadheat/deadheatkeep.ProgAlones", spec := "progAlones", unfollowed := true, recurses := true, plainKeys := false, apart := false }
def ProgAlonesSaid : Prop := progAlonesRow.holds Try.pinned (OpenSpec.ofChange progAlonesSpec)

/-- ITS FALSE NEIGHBOUR: 'it returns false'. Refute it at one input. -/
def progAlonesWrong : ChangeSpec := { name := "progAlones", fn := fun _ => fun
  | [d1, d2] => { results := [.lit (.bool false)], args := [d1, d2] }
  | _ => none }
def ProgAlonesWrongFalsely : Prop := progAlonesRow.holds Try.pinned (OpenSpec.ofChange progAlonesWrong)

/-- 'deadheatkeep.ProgAtomic': WHATEVER THE INPUT: true; the input reads as it did. -/
def progAtomicSpec : ChangeSpec := { name := "progAtomic", fn := fun _ => fun
  | [d1, d2] => { results := [.lit (.bool true)], args := [d1, d2] }
  | _ => none }
def progAtomicRow : OpenClaim := { program := "ythfeakfakjecoaa", sum := "b09bd2f4413091586838bce01fede4bd3a0880891a14ff0072a421453149a755", func := "deadheat/deadheatkeep.ProgAtomic", spec := "progAtomic", unfollowed := true, recurses := true, plainKeys := false, apart := false }
def ProgAtomicSaid : Prop := progAtomicRow.holds Try.pinned (OpenSpec.ofChange progAtomicSpec)

/-- ITS FALSE NEIGHBOUR: 'it returns false'. Refute it at one input. -/
def progAtomicWrong : ChangeSpec := { name := "progAtomic", fn := fun _ => fun
  | [d1, d2] => { results := [.lit (.bool false)], args := [d1, d2] }
  | _ => none }
def ProgAtomicWrongFalsely : Prop := progAtomicRow.holds Try.pinned (OpenSpec.ofChange progAtomicWrong)

/-- 'deadheatkeep.ProgSame': WHATEVER THE INPUT: true; the input reads as it did. -/
def progSameSpec : ChangeSpec := { name := "progSame", fn := fun _ => fun
  | [d1, d2, d3] => { results := [.lit (.bool true)], args := [d1, d2, d3] }
  | _ => none }
def progSameRow : OpenClaim := { program := "ythfeakfakjecoaa", sum := "b09bd2f4413091586838bce01fede4bd3a0880891a14ff0072a421453149a755", func := "deadheat/deadheatkeep.ProgSame", spec := "progSame", unfollowed := true, recurses := true, plainKeys := false, apart := false }
def ProgSameSaid : Prop := progSameRow.holds Try.pinned (OpenSpec.ofChange progSameSpec)

/-- ITS FALSE NEIGHBOUR: 'it returns false'. Refute it at one input. -/
def progSameWrong : ChangeSpec := { name := "progSame", fn := fun _ => fun
  | [d1, d2, d3] => { results := [.lit (.bool false)], args := [d1, d2, d3] }
  | _ => none }
def ProgSameWrongFalsely : Prop := progSameRow.holds Try.pinned (OpenSpec.ofChange progSameWrong)

/-- 'deadheattop.TopReplay': WHATEVER THE INPUT: true; the input reads as it did. -/
def topReplaySpec : ChangeSpec := { name := "topReplay", fn := fun _ => fun
  | [d1, d2] => { results := [.lit (.bool true)], args := [d1, d2] }
  | _ => none }
def topReplayRow : OpenClaim := { program := "ythfeakfakjecoaa", sum := "b09bd2f4413091586838bce01fede4bd3a0880891a14ff0072a421453149a755", func := "deadheat/deadheattop.TopReplay", spec := "topReplay", unfollowed := true, recurses := true, plainKeys := false, apart := false }
def TopReplaySaid : Prop := topReplayRow.holds Try.pinned (OpenSpec.ofChange topReplaySpec)

/-- ITS FALSE NEIGHBOUR: 'it returns false'. Refute it at one input. -/
def topReplayWrong : ChangeSpec := { name := "topReplay", fn := fun _ => fun
  | [d1, d2] => { results := [.lit (.bool false)], args := [d1, d2] }
  | _ => none }
def TopReplayWrongFalsely : Prop := topReplayRow.holds Try.pinned (OpenSpec.ofChange topReplayWrong)

/-- 'deadheatkeep.EveryDining': WHATEVER THE INPUT: true; the input reads as it did. -/
def everyDiningSpec : ChangeSpec := { name := "everyDining", fn := fun _ => fun
  | [d1, d2, d3] => { results := [.lit (.bool true)], args := [d1, d2, d3] }
  | _ => none }
def everyDiningRow : OpenClaim := { program := "ythfeakfakjecoaa", sum := "b09bd2f4413091586838bce01fede4bd3a0880891a14ff0072a421453149a755", func := "deadheat/deadheatkeep.EveryDining", spec := "everyDining", unfollowed := true, recurses := true, plainKeys := false, apart := false }
def EveryDiningSaid : Prop := everyDiningRow.holds Try.pinned (OpenSpec.ofChange everyDiningSpec)

/-- ITS FALSE NEIGHBOUR: 'it returns false'. Refute it at one input. -/
def everyDiningWrong : ChangeSpec := { name := "everyDining", fn := fun _ => fun
  | [d1, d2, d3] => { results := [.lit (.bool false)], args := [d1, d2, d3] }
  | _ => none }
def EveryDiningWrongFalsely : Prop := everyDiningRow.holds Try.pinned (OpenSpec.ofChange everyDiningWrong)

/-- 'deadheatkeep.EveryHas': WHATEVER THE INPUT: true; the input reads as it did. -/
def everyHasSpec : ChangeSpec := { name := "everyHas", fn := fun _ => fun
  | [d1, d2] => { results := [.lit (.bool true)], args := [d1, d2] }
  | _ => none }
def everyHasRow : OpenClaim := { program := "ythfeakfakjecoaa", sum := "b09bd2f4413091586838bce01fede4bd3a0880891a14ff0072a421453149a755", func := "deadheat/deadheatkeep.EveryHas", spec := "everyHas", unfollowed := true, recurses := true, plainKeys := false, apart := false }
def EveryHasSaid : Prop := everyHasRow.holds Try.pinned (OpenSpec.ofChange everyHasSpec)

/-- ITS FALSE NEIGHBOUR: 'it returns false'. Refute it at one input. -/
def everyHasWrong : ChangeSpec := { name := "everyHas", fn := fun _ => fun
  | [d1, d2] => { results := [.lit (.bool false)], args := [d1, d2] }
  | _ => none }
def EveryHasWrongFalsely : Prop := everyHasRow.holds Try.pinned (OpenSpec.ofChange everyHasWrong)

/-- 'deadheatkeep.EveryWay': WHATEVER THE INPUT: true; the input reads as it did. -/
def everyWaySpec : ChangeSpec := { name := "everyWay", fn := fun _ => fun
  | [d] => { results := [.lit (.bool true)], args := [d] }
  | _ => none }
def everyWayRow : OpenClaim := { program := "ythfeakfakjecoaa", sum := "b09bd2f4413091586838bce01fede4bd3a0880891a14ff0072a421453149a755", func := "deadheat/deadheatkeep.EveryWay", spec := "everyWay", unfollowed := true, recurses := true, plainKeys := false, apart := false }
def EveryWaySaid : Prop := everyWayRow.holds Try.pinned (OpenSpec.ofChange everyWaySpec)

/-- ITS FALSE NEIGHBOUR: 'it returns false'. Refute it at one input. -/
def everyWayWrong : ChangeSpec := { name := "everyWay", fn := fun _ => fun
  | [d] => { results := [.lit (.bool false)], args := [d] }
  | _ => none }
def EveryWayWrongFalsely : Prop := everyWayRow.holds Try.pinned (OpenSpec.ofChange everyWayWrong)

/-- 'deadheatkeep.EveryGoes': WHATEVER THE INPUT: true; the input reads as it did. -/
def everyGoesSpec : ChangeSpec := { name := "everyGoes", fn := fun _ => fun
  | [d] => { results := [.lit (.bool true)], args := [d] }
  | _ => none }
def everyGoesRow : OpenClaim := { program := "ythfeakfakjecoaa", sum := "b09bd2f4413091586838bce01fede4bd3a0880891a14ff0072a421453149a755", func := "deadheat/deadheatkeep.EveryGoes", spec := "everyGoes", unfollowed := true, recurses := true, plainKeys := false, apart := false }
def EveryGoesSaid : Prop := everyGoesRow.holds Try.pinned (OpenSpec.ofChange everyGoesSpec)

/-- ITS FALSE NEIGHBOUR: 'it returns false'. Refute it at one input. -/
def everyGoesWrong : ChangeSpec := { name := "everyGoes", fn := fun _ => fun
  | [d] => { results := [.lit (.bool false)], args := [d] }
  | _ => none }
def EveryGoesWrongFalsely : Prop := everyGoesRow.holds Try.pinned (OpenSpec.ofChange everyGoesWrong)

/- THE SECOND FORM. 'bulk': how many values and letters a reading holds, each counted each time it is reached (what is shared counts as often as it is met; a slice's spare places count too). A statement '..UptoSaid' is the law's where the arguments, and the package variables that the reading takes, are together of bulk at most 1048576: NARROWER than '..Said'. Prove '..Said' where nothing that the law and all that it calls make is longer than what came in: it says more and counts as full. Else prove '..UptoSaid'. A law counts once. -/
mutual
def uptoBulk {H : Type} : DataW H → Nat
  | .lit (.string bytes) => bytes.length + 1
  | .lit _ => 1
  | .nil => 1
  | .ptr d => uptoBulk d + 1
  | .slice elems spare => uptoBulkAll elems + uptoBulkAll spare + 1
  | .agg parts => uptoBulkAll parts + 1
  | .iface _ d => uptoBulk d + 1
  | .map entries => uptoBulkEntries entries + 1
  | .held _ => 1
def uptoBulkAll {H : Type} : List (DataW H) → Nat
  | [] => 0
  | d :: r => uptoBulk d + uptoBulkAll r
def uptoBulkEntries {H : Type} : List (Lit × DataW H) → Nat
  | [] => 0
  | x :: r => uptoBulkEntry x + uptoBulkEntries r
def uptoBulkEntry {H : Type} : Lit × DataW H → Nat
  | (.string bytes, d) => bytes.length + uptoBulk d + 1
  | (_, d) => uptoBulk d + 1
 end
def uptoSmall : (H : Type) → List (DataW H) → Bool := fun _ ds => decide (uptoBulkAll ds ≤ 1048576)
def OpenSpec.upto (s : _root_.Go.ChangeSpec) : _root_.Go.OpenSpec := { _root_.Go.OpenSpec.ofChange s with cond := some uptoSmall }

/-- 'deadheatkeep.ProgPicks', WHERE WHAT IT READS IS OF BULK AT MOST 1048576: true; the input reads as it did. -/
def progPicksUptoRow : OpenClaim := { program := "ythfeakfakjecoaa", sum := "b09bd2f4413091586838bce01fede4bd3a0880891a14ff0072a421453149a755", func := "deadheat/deadheatkeep.ProgPicks", spec := "progPicks", unfollowed := true, recurses := true, plainKeys := false, apart := false, narrowed := true }
def ProgPicksUptoSaid : Prop := progPicksUptoRow.holds Try.pinned (OpenSpec.upto progPicksSpec)

/-- 'deadheatkeep.ProgOrder', WHERE WHAT IT READS IS OF BULK AT MOST 1048576: true; the input reads as it did. -/
def progOrderUptoRow : OpenClaim := { program := "ythfeakfakjecoaa", sum := "b09bd2f4413091586838bce01fede4bd3a0880891a14ff0072a421453149a755", func := "deadheat/deadheatkeep.ProgOrder", spec := "progOrder", unfollowed := true, recurses := true, plainKeys := false, apart := false, narrowed := true }
def ProgOrderUptoSaid : Prop := progOrderUptoRow.holds Try.pinned (OpenSpec.upto progOrderSpec)

/-- 'deadheatkeep.ProgOne', WHERE WHAT IT READS IS OF BULK AT MOST 1048576: true; the input reads as it did. -/
def progOneUptoRow : OpenClaim := { program := "ythfeakfakjecoaa", sum := "b09bd2f4413091586838bce01fede4bd3a0880891a14ff0072a421453149a755", func := "deadheat/deadheatkeep.ProgOne", spec := "progOne", unfollowed := true, recurses := true, plainKeys := false, apart := false, narrowed := true }
def ProgOneUptoSaid : Prop := progOneUptoRow.holds Try.pinned (OpenSpec.upto progOneSpec)

/-- 'deadheatkeep.ProgSums', WHERE WHAT IT READS IS OF BULK AT MOST 1048576: true; the input reads as it did. -/
def progSumsUptoRow : OpenClaim := { program := "ythfeakfakjecoaa", sum := "b09bd2f4413091586838bce01fede4bd3a0880891a14ff0072a421453149a755", func := "deadheat/deadheatkeep.ProgSums", spec := "progSums", unfollowed := true, recurses := true, plainKeys := false, apart := false, narrowed := true }
def ProgSumsUptoSaid : Prop := progSumsUptoRow.holds Try.pinned (OpenSpec.upto progSumsSpec)

/-- 'deadheatkeep.ProgAlones', WHERE WHAT IT READS IS OF BULK AT MOST 1048576: true; the input reads as it did. -/
def progAlonesUptoRow : OpenClaim := { program := "ythfeakfakjecoaa", sum := "b09bd2f4413091586838bce01fede4bd3a0880891a14ff0072a421453149a755", func := "deadheat/deadheatkeep.ProgAlones", spec := "progAlones", unfollowed := true, recurses := true, plainKeys := false, apart := false, narrowed := true }
def ProgAlonesUptoSaid : Prop := progAlonesUptoRow.holds Try.pinned (OpenSpec.upto progAlonesSpec)

/-- 'deadheatkeep.ProgAtomic', WHERE WHAT IT READS IS OF BULK AT MOST 1048576: true; the input reads as it did. -/
def progAtomicUptoRow : OpenClaim := { program := "ythfeakfakjecoaa", sum := "b09bd2f4413091586838bce01fede4bd3a0880891a14ff0072a421453149a755", func := "deadheat/deadheatkeep.ProgAtomic", spec := "progAtomic", unfollowed := true, recurses := true, plainKeys := false, apart := false, narrowed := true }
def ProgAtomicUptoSaid : Prop := progAtomicUptoRow.holds Try.pinned (OpenSpec.upto progAtomicSpec)

/-- 'deadheatkeep.ProgSame', WHERE WHAT IT READS IS OF BULK AT MOST 1048576: true; the input reads as it did. -/
def progSameUptoRow : OpenClaim := { program := "ythfeakfakjecoaa", sum := "b09bd2f4413091586838bce01fede4bd3a0880891a14ff0072a421453149a755", func := "deadheat/deadheatkeep.ProgSame", spec := "progSame", unfollowed := true, recurses := true, plainKeys := false, apart := false, narrowed := true }
def ProgSameUptoSaid : Prop := progSameUptoRow.holds Try.pinned (OpenSpec.upto progSameSpec)

/-- 'deadheattop.TopReplay', WHERE WHAT IT READS IS OF BULK AT MOST 1048576: true; the input reads as it did. -/
def topReplayUptoRow : OpenClaim := { program := "ythfeakfakjecoaa", sum := "b09bd2f4413091586838bce01fede4bd3a0880891a14ff0072a421453149a755", func := "deadheat/deadheattop.TopReplay", spec := "topReplay", unfollowed := true, recurses := true, plainKeys := false, apart := false, narrowed := true }
def TopReplayUptoSaid : Prop := topReplayUptoRow.holds Try.pinned (OpenSpec.upto topReplaySpec)

/-- 'deadheatkeep.EveryDining', WHERE WHAT IT READS IS OF BULK AT MOST 1048576: true; the input reads as it did. -/
def everyDiningUptoRow : OpenClaim := { program := "ythfeakfakjecoaa", sum := "b09bd2f4413091586838bce01fede4bd3a0880891a14ff0072a421453149a755", func := "deadheat/deadheatkeep.EveryDining", spec := "everyDining", unfollowed := true, recurses := true, plainKeys := false, apart := false, narrowed := true }
def EveryDiningUptoSaid : Prop := everyDiningUptoRow.holds Try.pinned (OpenSpec.upto everyDiningSpec)

/-- 'deadheatkeep.EveryHas', WHERE WHAT IT READS IS OF BULK AT MOST 1048576: true; the input reads as it did. -/
def everyHasUptoRow : OpenClaim := { program := "ythfeakfakjecoaa", sum := "b09bd2f4413091586838bce01fede4bd3a0880891a14ff0072a421453149a755", func := "deadheat/deadheatkeep.EveryHas", spec := "everyHas", unfollowed := true, recurses := true, plainKeys := false, apart := false, narrowed := true }
def EveryHasUptoSaid : Prop := everyHasUptoRow.holds Try.pinned (OpenSpec.upto everyHasSpec)

/-- 'deadheatkeep.EveryWay', WHERE WHAT IT READS IS OF BULK AT MOST 1048576: true; the input reads as it did. -/
def everyWayUptoRow : OpenClaim := { program := "ythfeakfakjecoaa", sum := "b09bd2f4413091586838bce01fede4bd3a0880891a14ff0072a421453149a755", func := "deadheat/deadheatkeep.EveryWay", spec := "everyWay", unfollowed := true, recurses := true, plainKeys := false, apart := false, narrowed := true }
def EveryWayUptoSaid : Prop := everyWayUptoRow.holds Try.pinned (OpenSpec.upto everyWaySpec)

/-- 'deadheatkeep.EveryGoes', WHERE WHAT IT READS IS OF BULK AT MOST 1048576: true; the input reads as it did. -/
def everyGoesUptoRow : OpenClaim := { program := "ythfeakfakjecoaa", sum := "b09bd2f4413091586838bce01fede4bd3a0880891a14ff0072a421453149a755", func := "deadheat/deadheatkeep.EveryGoes", spec := "everyGoes", unfollowed := true, recurses := true, plainKeys := false, apart := false, narrowed := true }
def EveryGoesUptoSaid : Prop := everyGoesUptoRow.holds Try.pinned (OpenSpec.upto everyGoesSpec)

end Rows
end Go.Proofs.Ythfeakfakjecoaa
