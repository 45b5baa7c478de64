/-
  No cell of these rows narrows 'for every input' (looked for: loops, veiled, ifaces, maps, wideKeys, modest, calm, conditions, laid).
  DERIVED. THE GIVEN ROWS OF THIS SEAT. 12 by the template 'for every input the law returns true; each argument reads behind the call as it read before'; 0 by the template 'total and deterministic' (their statements: YtjpopjjjnaapnaaTotals.lean).
  GIVEN WITH THE SEED: the statements are not yours to turn. If you find one false, say at which input.
  Laid BY PROGRAM, IN A SANDBOX (cutbox-rows.mjs): the forced cells as the released guide's own fill.sh prints them over the translation fa937fd9116abe4e… (all of the seat's roots in one cut). By AI agents, Wed Nov 11 2026. No macro, syntax, notation, axiom, sorry.
-/
import Derived.Test.YtjpopjjjnaapnaaChecked
import GoSem.Claim
import GoSem.ClaimJoined
import GoSem.ClaimMapViews
import Derived.JoinedTies
import Derived.KernelRfl
namespace Go.Proofs.Ytjpopjjjnaapnaa
/- THE CELL 'sum', in the pinned program and in every row, IS THE sha256 OF THE DUMP (.gsa) THAT YtjpopjjjnaapnaaProg.lean LOADS. Nothing in Lean hashes anything: it is a label: what it is worth is what the hold of that sum in a sandbox is worth. -/
noncomputable def Try.pinned : Pinned := { name := "ytjpopjjjnaapnaa", sum := "fa937fd9116abe4ec49b339e8b8fdd52d6d368d3b512dca99009c3bfc12919af", checked := Try.checked }
namespace Rows
def none {H : Type} : Left H := { results := [], args := [] }

/-- 'deadheatkeep.RingTrue': WHATEVER THE INPUT: true; the input reads as it did. -/
def ringTrueSpec : ChangeSpec := { name := "ringTrue", fn := fun _ => fun
  | [d1, d2] => { results := [.lit (.bool true)], args := [d1, d2] }
  | _ => none }
def ringTrueRow : OpenClaim := { program := "ytjpopjjjnaapnaa", sum := "fa937fd9116abe4ec49b339e8b8fdd52d6d368d3b512dca99009c3bfc12919af", func := "deadheat/deadheatkeep.RingTrue", spec := "ringTrue", recurses := true, plainKeys := false, apart := false }
def RingTrueSaid : Prop := ringTrueRow.holds Try.pinned (OpenSpec.ofChange ringTrueSpec)

/-- ITS FALSE NEIGHBOUR: 'it returns false'. Refute it at one input. -/
def ringTrueWrong : ChangeSpec := { name := "ringTrue", fn := fun _ => fun
  | [d1, d2] => { results := [.lit (.bool false)], args := [d1, d2] }
  | _ => none }
def RingTrueWrongFalsely : Prop := ringTrueRow.holds Try.pinned (OpenSpec.ofChange ringTrueWrong)

/-- 'deadheatkeep.RingLess': WHATEVER THE INPUT: true; the input reads as it did. -/
def ringLessSpec : ChangeSpec := { name := "ringLess", fn := fun _ => fun
  | [d1, d2] => { results := [.lit (.bool true)], args := [d1, d2] }
  | _ => none }
def ringLessRow : OpenClaim := { program := "ytjpopjjjnaapnaa", sum := "fa937fd9116abe4ec49b339e8b8fdd52d6d368d3b512dca99009c3bfc12919af", func := "deadheat/deadheatkeep.RingLess", spec := "ringLess", recurses := true, plainKeys := false, apart := false }
def RingLessSaid : Prop := ringLessRow.holds Try.pinned (OpenSpec.ofChange ringLessSpec)

/-- ITS FALSE NEIGHBOUR: 'it returns false'. Refute it at one input. -/
def ringLessWrong : ChangeSpec := { name := "ringLess", fn := fun _ => fun
  | [d1, d2] => { results := [.lit (.bool false)], args := [d1, d2] }
  | _ => none }
def RingLessWrongFalsely : Prop := ringLessRow.holds Try.pinned (OpenSpec.ofChange ringLessWrong)

/-- 'deadheatkeep.RingRank': WHATEVER THE INPUT: true; the input reads as it did. -/
def ringRankSpec : ChangeSpec := { name := "ringRank", fn := fun _ => fun
  | [d] => { results := [.lit (.bool true)], args := [d] }
  | _ => none }
def ringRankRow : OpenClaim := { program := "ytjpopjjjnaapnaa", sum := "fa937fd9116abe4ec49b339e8b8fdd52d6d368d3b512dca99009c3bfc12919af", func := "deadheat/deadheatkeep.RingRank", spec := "ringRank", recurses := true, plainKeys := false, apart := false }
def RingRankSaid : Prop := ringRankRow.holds Try.pinned (OpenSpec.ofChange ringRankSpec)

/-- ITS FALSE NEIGHBOUR: 'it returns false'. Refute it at one input. -/
def ringRankWrong : ChangeSpec := { name := "ringRank", fn := fun _ => fun
  | [d] => { results := [.lit (.bool false)], args := [d] }
  | _ => none }
def RingRankWrongFalsely : Prop := ringRankRow.holds Try.pinned (OpenSpec.ofChange ringRankWrong)

/-- 'deadheatkeep.RingTurned': WHATEVER THE INPUT: true; the input reads as it did. -/
def ringTurnedSpec : ChangeSpec := { name := "ringTurned", fn := fun _ => fun
  | [d1, d2] => { results := [.lit (.bool true)], args := [d1, d2] }
  | _ => none }
def ringTurnedRow : OpenClaim := { program := "ytjpopjjjnaapnaa", sum := "fa937fd9116abe4ec49b339e8b8fdd52d6d368d3b512dca99009c3bfc12919af", func := "deadheat/deadheatkeep.RingTurned", spec := "ringTurned", recurses := true, plainKeys := false, apart := false }
def RingTurnedSaid : Prop := ringTurnedRow.holds Try.pinned (OpenSpec.ofChange ringTurnedSpec)

/-- ITS FALSE NEIGHBOUR: 'it returns false'. Refute it at one input. -/
def ringTurnedWrong : ChangeSpec := { name := "ringTurned", fn := fun _ => fun
  | [d1, d2] => { results := [.lit (.bool false)], args := [d1, d2] }
  | _ => none }
def RingTurnedWrongFalsely : Prop := ringTurnedRow.holds Try.pinned (OpenSpec.ofChange ringTurnedWrong)

/-- 'deadheatkeep.RingFront': WHATEVER THE INPUT: true; the input reads as it did. -/
def ringFrontSpec : ChangeSpec := { name := "ringFront", fn := fun _ => fun
  | [d1, d2] => { results := [.lit (.bool true)], args := [d1, d2] }
  | _ => none }
def ringFrontRow : OpenClaim := { program := "ytjpopjjjnaapnaa", sum := "fa937fd9116abe4ec49b339e8b8fdd52d6d368d3b512dca99009c3bfc12919af", func := "deadheat/deadheatkeep.RingFront", spec := "ringFront", recurses := true, plainKeys := false, apart := false }
def RingFrontSaid : Prop := ringFrontRow.holds Try.pinned (OpenSpec.ofChange ringFrontSpec)

/-- ITS FALSE NEIGHBOUR: 'it returns false'. Refute it at one input. -/
def ringFrontWrong : ChangeSpec := { name := "ringFront", fn := fun _ => fun
  | [d1, d2] => { results := [.lit (.bool false)], args := [d1, d2] }
  | _ => none }
def RingFrontWrongFalsely : Prop := ringFrontRow.holds Try.pinned (OpenSpec.ofChange ringFrontWrong)

/-- 'deadheatkeep.RingOrdered': WHATEVER THE INPUT: true; the input reads as it did. -/
def ringOrderedSpec : ChangeSpec := { name := "ringOrdered", fn := fun _ => fun
  | [d] => { results := [.lit (.bool true)], args := [d] }
  | _ => none }
def ringOrderedRow : OpenClaim := { program := "ytjpopjjjnaapnaa", sum := "fa937fd9116abe4ec49b339e8b8fdd52d6d368d3b512dca99009c3bfc12919af", func := "deadheat/deadheatkeep.RingOrdered", spec := "ringOrdered", recurses := true, plainKeys := false, apart := false }
def RingOrderedSaid : Prop := ringOrderedRow.holds Try.pinned (OpenSpec.ofChange ringOrderedSpec)

/-- ITS FALSE NEIGHBOUR: 'it returns false'. Refute it at one input. -/
def ringOrderedWrong : ChangeSpec := { name := "ringOrdered", fn := fun _ => fun
  | [d] => { results := [.lit (.bool false)], args := [d] }
  | _ => none }
def RingOrderedWrongFalsely : Prop := ringOrderedRow.holds Try.pinned (OpenSpec.ofChange ringOrderedWrong)

/-- 'deadheatkeep.SwapBack': WHATEVER THE INPUT: true; the input reads as it did. -/
def swapBackSpec : ChangeSpec := { name := "swapBack", fn := fun _ => fun
  | [d1, d2, d3, d4] => { results := [.lit (.bool true)], args := [d1, d2, d3, d4] }
  | _ => none }
def swapBackRow : OpenClaim := { program := "ytjpopjjjnaapnaa", sum := "fa937fd9116abe4ec49b339e8b8fdd52d6d368d3b512dca99009c3bfc12919af", func := "deadheat/deadheatkeep.SwapBack", spec := "swapBack", plainKeys := false, apart := false }
def SwapBackSaid : Prop := swapBackRow.holds Try.pinned (OpenSpec.ofChange swapBackSpec)

/-- ITS FALSE NEIGHBOUR: 'it returns false'. Refute it at one input. -/
def swapBackWrong : ChangeSpec := { name := "swapBack", fn := fun _ => fun
  | [d1, d2, d3, d4] => { results := [.lit (.bool false)], args := [d1, d2, d3, d4] }
  | _ => none }
def SwapBackWrongFalsely : Prop := swapBackRow.holds Try.pinned (OpenSpec.ofChange swapBackWrong)

/-- 'deadheatkeep.SwapMay': WHATEVER THE INPUT: true; the input reads as it did. -/
def swapMaySpec : ChangeSpec := { name := "swapMay", fn := fun _ => fun
  | [d1, d2] => { results := [.lit (.bool true)], args := [d1, d2] }
  | _ => none }
def swapMayRow : OpenClaim := { program := "ytjpopjjjnaapnaa", sum := "fa937fd9116abe4ec49b339e8b8fdd52d6d368d3b512dca99009c3bfc12919af", func := "deadheat/deadheatkeep.SwapMay", spec := "swapMay", plainKeys := false, apart := false }
def SwapMaySaid : Prop := swapMayRow.holds Try.pinned (OpenSpec.ofChange swapMaySpec)

/-- ITS FALSE NEIGHBOUR: 'it returns false'. Refute it at one input. -/
def swapMayWrong : ChangeSpec := { name := "swapMay", fn := fun _ => fun
  | [d1, d2] => { results := [.lit (.bool false)], args := [d1, d2] }
  | _ => none }
def SwapMayWrongFalsely : Prop := swapMayRow.holds Try.pinned (OpenSpec.ofChange swapMayWrong)

/-- 'deadheatkeep.SwapOrder': WHATEVER THE INPUT: true; the input reads as it did. -/
def swapOrderSpec : ChangeSpec := { name := "swapOrder", fn := fun _ => fun
  | [d1, d2] => { results := [.lit (.bool true)], args := [d1, d2] }
  | _ => none }
def swapOrderRow : OpenClaim := { program := "ytjpopjjjnaapnaa", sum := "fa937fd9116abe4ec49b339e8b8fdd52d6d368d3b512dca99009c3bfc12919af", func := "deadheat/deadheatkeep.SwapOrder", spec := "swapOrder", unfollowed := true, recurses := true, plainKeys := false, apart := false }
def SwapOrderSaid : Prop := swapOrderRow.holds Try.pinned (OpenSpec.ofChange swapOrderSpec)

/-- ITS FALSE NEIGHBOUR: 'it returns false'. Refute it at one input. -/
def swapOrderWrong : ChangeSpec := { name := "swapOrder", fn := fun _ => fun
  | [d1, d2] => { results := [.lit (.bool false)], args := [d1, d2] }
  | _ => none }
def SwapOrderWrongFalsely : Prop := swapOrderRow.holds Try.pinned (OpenSpec.ofChange swapOrderWrong)

/-- 'deadheatkeep.SwapRaces': WHATEVER THE INPUT: true; the input reads as it did. -/
def swapRacesSpec : ChangeSpec := { name := "swapRaces", fn := fun _ => fun
  | [d1, d2] => { results := [.lit (.bool true)], args := [d1, d2] }
  | _ => none }
def swapRacesRow : OpenClaim := { program := "ytjpopjjjnaapnaa", sum := "fa937fd9116abe4ec49b339e8b8fdd52d6d368d3b512dca99009c3bfc12919af", func := "deadheat/deadheatkeep.SwapRaces", spec := "swapRaces", unfollowed := true, recurses := true, plainKeys := false, apart := false }
def SwapRacesSaid : Prop := swapRacesRow.holds Try.pinned (OpenSpec.ofChange swapRacesSpec)

/-- ITS FALSE NEIGHBOUR: 'it returns false'. Refute it at one input. -/
def swapRacesWrong : ChangeSpec := { name := "swapRaces", fn := fun _ => fun
  | [d1, d2] => { results := [.lit (.bool false)], args := [d1, d2] }
  | _ => none }
def SwapRacesWrongFalsely : Prop := swapRacesRow.holds Try.pinned (OpenSpec.ofChange swapRacesWrong)

/-- 'deadheatkeep.SwapMoves': WHATEVER THE INPUT: true; the input reads as it did. -/
def swapMovesSpec : ChangeSpec := { name := "swapMoves", fn := fun _ => fun
  | [d1, d2] => { results := [.lit (.bool true)], args := [d1, d2] }
  | _ => none }
def swapMovesRow : OpenClaim := { program := "ytjpopjjjnaapnaa", sum := "fa937fd9116abe4ec49b339e8b8fdd52d6d368d3b512dca99009c3bfc12919af", func := "deadheat/deadheatkeep.SwapMoves", spec := "swapMoves", unfollowed := true, recurses := true, plainKeys := false, apart := false }
def SwapMovesSaid : Prop := swapMovesRow.holds Try.pinned (OpenSpec.ofChange swapMovesSpec)

/-- ITS FALSE NEIGHBOUR: 'it returns false'. Refute it at one input. -/
def swapMovesWrong : ChangeSpec := { name := "swapMoves", fn := fun _ => fun
  | [d1, d2] => { results := [.lit (.bool false)], args := [d1, d2] }
  | _ => none }
def SwapMovesWrongFalsely : Prop := swapMovesRow.holds Try.pinned (OpenSpec.ofChange swapMovesWrong)

/-- 'deadheatkeep.SwapSame': WHATEVER THE INPUT: true; the input reads as it did. -/
def swapSameSpec : ChangeSpec := { name := "swapSame", fn := fun _ => fun
  | [d1, d2, d3] => { results := [.lit (.bool true)], args := [d1, d2, d3] }
  | _ => none }
def swapSameRow : OpenClaim := { program := "ytjpopjjjnaapnaa", sum := "fa937fd9116abe4ec49b339e8b8fdd52d6d368d3b512dca99009c3bfc12919af", func := "deadheat/deadheatkeep.SwapSame", spec := "swapSame", unfollowed := true, recurses := true, plainKeys := false, apart := false }
def SwapSameSaid : Prop := swapSameRow.holds Try.pinned (OpenSpec.ofChange swapSameSpec)

/-- ITS FALSE NEIGHBOUR: 'it returns false'. Refute it at one input. -/
def swapSameWrong : ChangeSpec := { name := "swapSame", fn := fun _ => fun
  | [d1, d2, d3] => { results := [.lit (.bool false)], args := [d1, d2, d3] }
  | _ => none }
def SwapSameWrongFalsely : Prop := swapSameRow.holds Try.pinned (OpenSpec.ofChange swapSameWrong)

/- THE SECOND FORM. 'bulk': how many values and letters a reading holds, each counted each time it is reached (what is shared counts as often as it is met; a slice's spare places count too). A statement '..UptoSaid' is the law's where the arguments, and the package variables that the reading takes, are together of bulk at most 1048576: NARROWER than '..Said'. Prove '..Said' where nothing that the law and all that it calls make is longer than what came in: it says more and counts as full. Else prove '..UptoSaid'. A law counts once. -/
mutual
def uptoBulk {H : Type} : DataW H → Nat
  | .lit (.string bytes) => bytes.length + 1
  | .lit _ => 1
  | .nil => 1
  | .ptr d => uptoBulk d + 1
  | .slice elems spare => uptoBulkAll elems + uptoBulkAll spare + 1
  | .agg parts => uptoBulkAll parts + 1
  | .iface _ d => uptoBulk d + 1
  | .map entries => uptoBulkEntries entries + 1
  | .held _ => 1
def uptoBulkAll {H : Type} : List (DataW H) → Nat
  | [] => 0
  | d :: r => uptoBulk d + uptoBulkAll r
def uptoBulkEntries {H : Type} : List (Lit × DataW H) → Nat
  | [] => 0
  | x :: r => uptoBulkEntry x + uptoBulkEntries r
def uptoBulkEntry {H : Type} : Lit × DataW H → Nat
  | (.string bytes, d) => bytes.length + uptoBulk d + 1
  | (_, d) => uptoBulk d + 1
 end
def uptoSmall : (H : Type) → List (DataW H) → Bool := fun _ ds => decide (uptoBulkAll ds ≤ 1048576)
def OpenSpec.upto (s : _root_.Go.ChangeSpec) : _root_.Go.OpenSpec := { _root_.Go.OpenSpec.ofChange s with cond := some uptoSmall }

/-- 'deadheatkeep.RingTrue', WHERE WHAT IT READS IS OF BULK AT MOST 1048576: true; the input reads as it did. -/
def ringTrueUptoRow : OpenClaim := { program := "ytjpopjjjnaapnaa", sum := "fa937fd9116abe4ec49b339e8b8fdd52d6d368d3b512dca99009c3bfc12919af", func := "deadheat/deadheatkeep.RingTrue", spec := "ringTrue", recurses := true, plainKeys := false, apart := false, narrowed := true }
def RingTrueUptoSaid : Prop := ringTrueUptoRow.holds Try.pinned (OpenSpec.upto ringTrueSpec)

/-- 'deadheatkeep.RingLess', WHERE WHAT IT READS IS OF BULK AT MOST 1048576: true; the input reads as it did. -/
def ringLessUptoRow : OpenClaim := { program := "ytjpopjjjnaapnaa", sum := "fa937fd9116abe4ec49b339e8b8fdd52d6d368d3b512dca99009c3bfc12919af", func := "deadheat/deadheatkeep.RingLess", spec := "ringLess", recurses := true, plainKeys := false, apart := false, narrowed := true }
def RingLessUptoSaid : Prop := ringLessUptoRow.holds Try.pinned (OpenSpec.upto ringLessSpec)

/-- 'deadheatkeep.RingRank', WHERE WHAT IT READS IS OF BULK AT MOST 1048576: true; the input reads as it did. -/
def ringRankUptoRow : OpenClaim := { program := "ytjpopjjjnaapnaa", sum := "fa937fd9116abe4ec49b339e8b8fdd52d6d368d3b512dca99009c3bfc12919af", func := "deadheat/deadheatkeep.RingRank", spec := "ringRank", recurses := true, plainKeys := false, apart := false, narrowed := true }
def RingRankUptoSaid : Prop := ringRankUptoRow.holds Try.pinned (OpenSpec.upto ringRankSpec)

/-- 'deadheatkeep.RingTurned', WHERE WHAT IT READS IS OF BULK AT MOST 1048576: true; the input reads as it did. -/
def ringTurnedUptoRow : OpenClaim := { program := "ytjpopjjjnaapnaa", sum := "fa937fd9116abe4ec49b339e8b8fdd52d6d368d3b512dca99009c3bfc12919af", func := "deadheat/deadheatkeep.RingTurned", spec := "ringTurned", recurses := true, plainKeys := false, apart := false, narrowed := true }
def RingTurnedUptoSaid : Prop := ringTurnedUptoRow.holds Try.pinned (OpenSpec.upto ringTurnedSpec)

/-- 'deadheatkeep.RingFront', WHERE WHAT IT READS IS OF BULK AT MOST 1048576: true; the input reads as it did. -/
def ringFrontUptoRow : OpenClaim := { program := "ytjpopjjjnaapnaa", sum := "fa937fd9116abe4ec49b339e8b8fdd52d6d368d3b512dca99009c3bfc12919af", func := "deadheat/deadheatkeep.RingFront", spec := "ringFront", recurses := true, plainKeys := false, apart := false, narrowed := true }
def RingFrontUptoSaid : Prop := ringFrontUptoRow.holds Try.pinned (OpenSpec.upto ringFrontSpec)

/-- 'deadheatkeep.RingOrdered', WHERE WHAT IT READS IS OF BULK AT MOST 1048576: true; the input reads as it did. -/
def ringOrderedUptoRow : OpenClaim := { program := "ytjpopjjjnaapnaa", sum := "fa937fd9116abe4ec49b339e8b8fdd52d6d368d3b512dca99009c3bfc12919af", func := "deadheat/deadheatkeep.RingOrdered", spec := "ringOrdered", recurses := true, plainKeys := false, apart := false, narrowed := true }
def RingOrderedUptoSaid : Prop := ringOrderedUptoRow.holds Try.pinned (OpenSpec.upto ringOrderedSpec)

/-- 'deadheatkeep.SwapBack', WHERE WHAT IT READS IS OF BULK AT MOST 1048576: true; the input reads as it did. -/
def swapBackUptoRow : OpenClaim := { program := "ytjpopjjjnaapnaa", sum := "fa937fd9116abe4ec49b339e8b8fdd52d6d368d3b512dca99009c3bfc12919af", func := "deadheat/deadheatkeep.SwapBack", spec := "swapBack", plainKeys := false, apart := false, narrowed := true }
def SwapBackUptoSaid : Prop := swapBackUptoRow.holds Try.pinned (OpenSpec.upto swapBackSpec)

/-- 'deadheatkeep.SwapMay', WHERE WHAT IT READS IS OF BULK AT MOST 1048576: true; the input reads as it did. -/
def swapMayUptoRow : OpenClaim := { program := "ytjpopjjjnaapnaa", sum := "fa937fd9116abe4ec49b339e8b8fdd52d6d368d3b512dca99009c3bfc12919af", func := "deadheat/deadheatkeep.SwapMay", spec := "swapMay", plainKeys := false, apart := false, narrowed := true }
def SwapMayUptoSaid : Prop := swapMayUptoRow.holds Try.pinned (OpenSpec.upto swapMaySpec)

/-- 'deadheatkeep.SwapOrder', WHERE WHAT IT READS IS OF BULK AT MOST 1048576: true; the input reads as it did. -/
def swapOrderUptoRow : OpenClaim := { program := "ytjpopjjjnaapnaa", sum := "fa937fd9116abe4ec49b339e8b8fdd52d6d368d3b512dca99009c3bfc12919af", func := "deadheat/deadheatkeep.SwapOrder", spec := "swapOrder", unfollowed := true, recurses := true, plainKeys := false, apart := false, narrowed := true }
def SwapOrderUptoSaid : Prop := swapOrderUptoRow.holds Try.pinned (OpenSpec.upto swapOrderSpec)

/-- 'deadheatkeep.SwapRaces', WHERE WHAT IT READS IS OF BULK AT MOST 1048576: true; the input reads as it did. -/
def swapRacesUptoRow : OpenClaim := { program := "ytjpopjjjnaapnaa", sum := "fa937fd9116abe4ec49b339e8b8fdd52d6d368d3b512dca99009c3bfc12919af", func := "deadheat/deadheatkeep.SwapRaces", spec := "swapRaces", unfollowed := true, recurses := true, plainKeys := false, apart := false, narrowed := true }
def SwapRacesUptoSaid : Prop := swapRacesUptoRow.holds Try.pinned (OpenSpec.upto swapRacesSpec)

/-- 'deadheatkeep.SwapMoves', WHERE WHAT IT READS IS OF BULK AT MOST 1048576: true; the input reads as it did. -/
def swapMovesUptoRow : OpenClaim := { program := "ytjpopjjjnaapnaa", sum := "fa937fd9116abe4ec49b339e8b8fdd52d6d368d3b512dca99009c3bfc12919af", func := "deadheat/deadheatkeep.SwapMoves", spec := "swapMoves", unfollowed := true, recurses := true, plainKeys := false, apart := false, narrowed := true }
def SwapMovesUptoSaid : Prop := swapMovesUptoRow.holds Try.pinned (OpenSpec.upto swapMovesSpec)

/-- 'deadheatkeep.SwapSame', WHERE WHAT IT READS IS OF BULK AT MOST 1048576: true; the input reads as it did. -/
def swapSameUptoRow : OpenClaim := { program := "ytjpopjjjnaapnaa", sum := "fa937fd9116abe4ec49b339e8b8fdd52d6d368d3b512dca99009c3bfc12919af", func := "deadheat/deadheatkeep.SwapSame", spec := "swapSame", unfollowed := true, recurses := true, plainKeys := false, apart := false, narrowed := true }
def SwapSameUptoSaid : Prop := swapSameUptoRow.holds Try.pinned (OpenSpec.upto swapSameSpec)

end Rows
end Go.Proofs.Ytjpopjjjnaapnaa
