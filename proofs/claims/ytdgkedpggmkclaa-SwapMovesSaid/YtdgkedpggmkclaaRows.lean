/-
  No cell of these rows narrows 'for every input' (looked for: loops, veiled, ifaces, maps, wideKeys, modest, calm, conditions, laid).
  DERIVED. THE GIVEN ROWS OF THIS SEAT. 9 by the template 'for every input the law returns true; each argument reads behind the call as it read before'; 0 by the template 'total and deterministic' (their statements: YtdgkedpggmkclaaTotals.lean).
  GIVEN WITH THE SEED: the statements are not yours to turn. If you find one false, say at which input.
  Laid BY PROGRAM, IN A SANDBOX (cutbox-rows.mjs): the forced cells as the released guide's own fill.sh prints them over the translation 819c0c7a10fdef33… (all of the seat's roots in one cut). By AI agents, Wed Nov 11 2026. No macro, syntax, notation, axiom, sorry.
-/
import Derived.Test.YtdgkedpggmkclaaChecked
import GoSem.Claim
import GoSem.ClaimJoined
import GoSem.ClaimMapViews
import Derived.JoinedTies
import Derived.KernelRfl
namespace Go.Proofs.Ytdgkedpggmkclaa
/- THE CELL 'sum', in the pinned program and in every row, IS THE sha256 OF THE DUMP (.gsa) THAT YtdgkedpggmkclaaProg.lean LOADS. Nothing in Lean hashes anything: it is a label: what it is worth is what the hold of that sum in a sandbox is worth. -/
noncomputable def Try.pinned : Pinned := { name := "ytdgkedpggmkclaa", sum := "819c0c7a10fdef33aee945e86045c9f4d3a50c4f27ff806f4f1d2c05d9166d92", checked := Try.checked }
namespace Rows
def none {H : Type} : Left H := { results := [], args := [] }

/-- 'deadheatkeep.ClockLattice': WHATEVER THE INPUT: true; the input reads as it did. -/
def clockLatticeSpec : ChangeSpec := { name := "clockLattice", fn := fun _ => fun
  | [d1, d2, d3] => { results := [.lit (.bool true)], args := [d1, d2, d3] }
  | _ => none }
def clockLatticeRow : OpenClaim := { program := "ytdgkedpggmkclaa", sum := "819c0c7a10fdef33aee945e86045c9f4d3a50c4f27ff806f4f1d2c05d9166d92", func := "deadheat/deadheatkeep.ClockLattice", spec := "clockLattice", unfollowed := true, recurses := true, apart := false }
def ClockLatticeSaid : Prop := clockLatticeRow.holds Try.pinned (OpenSpec.ofChange clockLatticeSpec)

/-- ITS FALSE NEIGHBOUR: 'it returns false'. Refute it at one input. -/
def clockLatticeWrong : ChangeSpec := { name := "clockLattice", fn := fun _ => fun
  | [d1, d2, d3] => { results := [.lit (.bool false)], args := [d1, d2, d3] }
  | _ => none }
def ClockLatticeWrongFalsely : Prop := clockLatticeRow.holds Try.pinned (OpenSpec.ofChange clockLatticeWrong)

/-- 'deadheatkeep.SwapSort': WHATEVER THE INPUT: true; the input reads as it did. -/
def swapSortSpec : ChangeSpec := { name := "swapSort", fn := fun _ => fun
  | [d] => { results := [.lit (.bool true)], args := [d] }
  | _ => none }
def swapSortRow : OpenClaim := { program := "ytdgkedpggmkclaa", sum := "819c0c7a10fdef33aee945e86045c9f4d3a50c4f27ff806f4f1d2c05d9166d92", func := "deadheat/deadheatkeep.SwapSort", spec := "swapSort", unfollowed := true, recurses := true, apart := false }
def SwapSortSaid : Prop := swapSortRow.holds Try.pinned (OpenSpec.ofChange swapSortSpec)

/-- ITS FALSE NEIGHBOUR: 'it returns false'. Refute it at one input. -/
def swapSortWrong : ChangeSpec := { name := "swapSort", fn := fun _ => fun
  | [d] => { results := [.lit (.bool false)], args := [d] }
  | _ => none }
def SwapSortWrongFalsely : Prop := swapSortRow.holds Try.pinned (OpenSpec.ofChange swapSortWrong)

/-- 'deadheatkeep.SwapSame': WHATEVER THE INPUT: true; the input reads as it did. -/
def swapSameSpec : ChangeSpec := { name := "swapSame", fn := fun _ => fun
  | [d1, d2, d3] => { results := [.lit (.bool true)], args := [d1, d2, d3] }
  | _ => none }
def swapSameRow : OpenClaim := { program := "ytdgkedpggmkclaa", sum := "819c0c7a10fdef33aee945e86045c9f4d3a50c4f27ff806f4f1d2c05d9166d92", func := "deadheat/deadheatkeep.SwapSame", spec := "swapSame", unfollowed := true, recurses := true, apart := false }
def SwapSameSaid : Prop := swapSameRow.holds Try.pinned (OpenSpec.ofChange swapSameSpec)

/-- ITS FALSE NEIGHBOUR: 'it returns false'. Refute it at one input. -/
def swapSameWrong : ChangeSpec := { name := "swapSame", fn := fun _ => fun
  | [d1, d2, d3] => { results := [.lit (.bool false)], args := [d1, d2, d3] }
  | _ => none }
def SwapSameWrongFalsely : Prop := swapSameRow.holds Try.pinned (OpenSpec.ofChange swapSameWrong)

/-- 'deadheatkeep.SwapMoves': WHATEVER THE INPUT: true; the input reads as it did. -/
def swapMovesSpec : ChangeSpec := { name := "swapMoves", fn := fun _ => fun
  | [d1, d2] => { results := [.lit (.bool true)], args := [d1, d2] }
  | _ => none }
def swapMovesRow : OpenClaim := { program := "ytdgkedpggmkclaa", sum := "819c0c7a10fdef33aee945e86045c9f4d3a50c4f27ff806f4f1d2c05d9166d92", func := "deadheat/deadheatkeep.SwapMoves", spec := "swapMoves", unfollowed := true, recurses := true, apart := false }
def SwapMovesSaid : Prop := swapMovesRow.holds Try.pinned (OpenSpec.ofChange swapMovesSpec)

/-- ITS FALSE NEIGHBOUR: 'it returns false'. Refute it at one input. -/
def swapMovesWrong : ChangeSpec := { name := "swapMoves", fn := fun _ => fun
  | [d1, d2] => { results := [.lit (.bool false)], args := [d1, d2] }
  | _ => none }
def SwapMovesWrongFalsely : Prop := swapMovesRow.holds Try.pinned (OpenSpec.ofChange swapMovesWrong)

/-- 'deadheatkeep.SwapLeasts': WHATEVER THE INPUT: true; the input reads as it did. -/
def swapLeastsSpec : ChangeSpec := { name := "swapLeasts", fn := fun _ => fun
  | [d1, d2] => { results := [.lit (.bool true)], args := [d1, d2] }
  | _ => none }
def swapLeastsRow : OpenClaim := { program := "ytdgkedpggmkclaa", sum := "819c0c7a10fdef33aee945e86045c9f4d3a50c4f27ff806f4f1d2c05d9166d92", func := "deadheat/deadheatkeep.SwapLeasts", spec := "swapLeasts", unfollowed := true, recurses := true, apart := false }
def SwapLeastsSaid : Prop := swapLeastsRow.holds Try.pinned (OpenSpec.ofChange swapLeastsSpec)

/-- ITS FALSE NEIGHBOUR: 'it returns false'. Refute it at one input. -/
def swapLeastsWrong : ChangeSpec := { name := "swapLeasts", fn := fun _ => fun
  | [d1, d2] => { results := [.lit (.bool false)], args := [d1, d2] }
  | _ => none }
def SwapLeastsWrongFalsely : Prop := swapLeastsRow.holds Try.pinned (OpenSpec.ofChange swapLeastsWrong)

/-- 'deadheatkeep.GuardFront': WHATEVER THE INPUT: true; the input reads as it did. -/
def guardFrontSpec : ChangeSpec := { name := "guardFront", fn := fun _ => fun
  | [d1, d2] => { results := [.lit (.bool true)], args := [d1, d2] }
  | _ => none }
def guardFrontRow : OpenClaim := { program := "ytdgkedpggmkclaa", sum := "819c0c7a10fdef33aee945e86045c9f4d3a50c4f27ff806f4f1d2c05d9166d92", func := "deadheat/deadheatkeep.GuardFront", spec := "guardFront", unfollowed := true, recurses := true, apart := false }
def GuardFrontSaid : Prop := guardFrontRow.holds Try.pinned (OpenSpec.ofChange guardFrontSpec)

/-- ITS FALSE NEIGHBOUR: 'it returns false'. Refute it at one input. -/
def guardFrontWrong : ChangeSpec := { name := "guardFront", fn := fun _ => fun
  | [d1, d2] => { results := [.lit (.bool false)], args := [d1, d2] }
  | _ => none }
def GuardFrontWrongFalsely : Prop := guardFrontRow.holds Try.pinned (OpenSpec.ofChange guardFrontWrong)

/-- 'deadheatkeep.GuardKeeps': WHATEVER THE INPUT: true; the input reads as it did. -/
def guardKeepsSpec : ChangeSpec := { name := "guardKeeps", fn := fun _ => fun
  | [d] => { results := [.lit (.bool true)], args := [d] }
  | _ => none }
def guardKeepsRow : OpenClaim := { program := "ytdgkedpggmkclaa", sum := "819c0c7a10fdef33aee945e86045c9f4d3a50c4f27ff806f4f1d2c05d9166d92", func := "deadheat/deadheatkeep.GuardKeeps", spec := "guardKeeps", unfollowed := true, recurses := true, apart := false }
def GuardKeepsSaid : Prop := guardKeepsRow.holds Try.pinned (OpenSpec.ofChange guardKeepsSpec)

/-- ITS FALSE NEIGHBOUR: 'it returns false'. Refute it at one input. -/
def guardKeepsWrong : ChangeSpec := { name := "guardKeeps", fn := fun _ => fun
  | [d] => { results := [.lit (.bool false)], args := [d] }
  | _ => none }
def GuardKeepsWrongFalsely : Prop := guardKeepsRow.holds Try.pinned (OpenSpec.ofChange guardKeepsWrong)

/-- 'deadheatkeep.GuardStates': WHATEVER THE INPUT: true; the input reads as it did. -/
def guardStatesSpec : ChangeSpec := { name := "guardStates", fn := fun _ => fun
  | [d] => { results := [.lit (.bool true)], args := [d] }
  | _ => none }
def guardStatesRow : OpenClaim := { program := "ytdgkedpggmkclaa", sum := "819c0c7a10fdef33aee945e86045c9f4d3a50c4f27ff806f4f1d2c05d9166d92", func := "deadheat/deadheatkeep.GuardStates", spec := "guardStates", unfollowed := true, recurses := true, apart := false }
def GuardStatesSaid : Prop := guardStatesRow.holds Try.pinned (OpenSpec.ofChange guardStatesSpec)

/-- ITS FALSE NEIGHBOUR: 'it returns false'. Refute it at one input. -/
def guardStatesWrong : ChangeSpec := { name := "guardStates", fn := fun _ => fun
  | [d] => { results := [.lit (.bool false)], args := [d] }
  | _ => none }
def GuardStatesWrongFalsely : Prop := guardStatesRow.holds Try.pinned (OpenSpec.ofChange guardStatesWrong)

/-- 'deadheatkeep.GuardOne': WHATEVER THE INPUT: true; the input reads as it did. -/
def guardOneSpec : ChangeSpec := { name := "guardOne", fn := fun _ => fun
  | [d1, d2] => { results := [.lit (.bool true)], args := [d1, d2] }
  | _ => none }
def guardOneRow : OpenClaim := { program := "ytdgkedpggmkclaa", sum := "819c0c7a10fdef33aee945e86045c9f4d3a50c4f27ff806f4f1d2c05d9166d92", func := "deadheat/deadheatkeep.GuardOne", spec := "guardOne", unfollowed := true, recurses := true, apart := false }
def GuardOneSaid : Prop := guardOneRow.holds Try.pinned (OpenSpec.ofChange guardOneSpec)

/-- ITS FALSE NEIGHBOUR: 'it returns false'. Refute it at one input. -/
def guardOneWrong : ChangeSpec := { name := "guardOne", fn := fun _ => fun
  | [d1, d2] => { results := [.lit (.bool false)], args := [d1, d2] }
  | _ => none }
def GuardOneWrongFalsely : Prop := guardOneRow.holds Try.pinned (OpenSpec.ofChange guardOneWrong)

/- THE SECOND FORM. 'bulk': how many values and letters a reading holds, each counted each time it is reached (what is shared counts as often as it is met; a slice's spare places count too). A statement '..UptoSaid' is the law's where the arguments, and the package variables that the reading takes, are together of bulk at most 1048576: NARROWER than '..Said'. Prove '..Said' where nothing that the law and all that it calls make is longer than what came in: it says more and counts as full. Else prove '..UptoSaid'. A law counts once. -/
mutual
def uptoBulk {H : Type} : DataW H → Nat
  | .lit (.string bytes) => bytes.length + 1
  | .lit _ => 1
  | .nil => 1
  | .ptr d => uptoBulk d + 1
  | .slice elems spare => uptoBulkAll elems + uptoBulkAll spare + 1
  | .agg parts => uptoBulkAll parts + 1
  | .iface _ d => uptoBulk d + 1
  | .map entries => uptoBulkEntries entries + 1
  | .held _ => 1
def uptoBulkAll {H : Type} : List (DataW H) → Nat
  | [] => 0
  | d :: r => uptoBulk d + uptoBulkAll r
def uptoBulkEntries {H : Type} : List (Lit × DataW H) → Nat
  | [] => 0
  | x :: r => uptoBulkEntry x + uptoBulkEntries r
def uptoBulkEntry {H : Type} : Lit × DataW H → Nat
  | (.string bytes, d) => bytes.length + uptoBulk d + 1
  | (_, d) => uptoBulk d + 1
 end
def uptoSmall : (H : Type) → List (DataW H) → Bool := fun _ ds => decide (uptoBulkAll ds ≤ 1048576)
def OpenSpec.upto (s : _root_.Go.ChangeSpec) : _root_.Go.OpenSpec := { _root_.Go.OpenSpec.ofChange s with cond := some uptoSmall }

/-- 'deadheatkeep.ClockLattice', WHERE WHAT IT READS IS OF BULK AT MOST 1048576: true; the input reads as it did. -/
def clockLatticeUptoRow : OpenClaim := { program := "ytdgkedpggmkclaa", sum := "819c0c7a10fdef33aee945e86045c9f4d3a50c4f27ff806f4f1d2c05d9166d92", func := "deadheat/deadheatkeep.ClockLattice", spec := "clockLattice", unfollowed := true, recurses := true, apart := false, narrowed := true }
def ClockLatticeUptoSaid : Prop := clockLatticeUptoRow.holds Try.pinned (OpenSpec.upto clockLatticeSpec)

/-- 'deadheatkeep.SwapSort', WHERE WHAT IT READS IS OF BULK AT MOST 1048576: true; the input reads as it did. -/
def swapSortUptoRow : OpenClaim := { program := "ytdgkedpggmkclaa", sum := "819c0c7a10fdef33aee945e86045c9f4d3a50c4f27ff806f4f1d2c05d9166d92", func := "deadheat/deadheatkeep.SwapSort", spec := "swapSort", unfollowed := true, recurses := true, apart := false, narrowed := true }
def SwapSortUptoSaid : Prop := swapSortUptoRow.holds Try.pinned (OpenSpec.upto swapSortSpec)

/-- 'deadheatkeep.SwapSame', WHERE WHAT IT READS IS OF BULK AT MOST 1048576: true; the input reads as it did. -/
def swapSameUptoRow : OpenClaim := { program := "ytdgkedpggmkclaa", sum := "819c0c7a10fdef33aee945e86045c9f4d3a50c4f27ff806f4f1d2c05d9166d92", func := "deadheat/deadheatkeep.SwapSame", spec := "swapSame", unfollowed := true, recurses := true, apart := false, narrowed := true }
def SwapSameUptoSaid : Prop := swapSameUptoRow.holds Try.pinned (OpenSpec.upto swapSameSpec)

/-- 'deadheatkeep.SwapMoves', WHERE WHAT IT READS IS OF BULK AT MOST 1048576: true; the input reads as it did. -/
def swapMovesUptoRow : OpenClaim := { program := "ytdgkedpggmkclaa", sum := "819c0c7a10fdef33aee945e86045c9f4d3a50c4f27ff806f4f1d2c05d9166d92", func := "deadheat/deadheatkeep.SwapMoves", spec := "swapMoves", unfollowed := true, recurses := true, apart := false, narrowed := true }
def SwapMovesUptoSaid : Prop := swapMovesUptoRow.holds Try.pinned (OpenSpec.upto swapMovesSpec)

/-- 'deadheatkeep.SwapLeasts', WHERE WHAT IT READS IS OF BULK AT MOST 1048576: true; the input reads as it did. -/
def swapLeastsUptoRow : OpenClaim := { program := "ytdgkedpggmkclaa", sum := "819c0c7a10fdef33aee945e86045c9f4d3a50c4f27ff806f4f1d2c05d9166d92", func := "deadheat/deadheatkeep.SwapLeasts", spec := "swapLeasts", unfollowed := true, recurses := true, apart := false, narrowed := true }
def SwapLeastsUptoSaid : Prop := swapLeastsUptoRow.holds Try.pinned (OpenSpec.upto swapLeastsSpec)

/-- 'deadheatkeep.GuardFront', WHERE WHAT IT READS IS OF BULK AT MOST 1048576: true; the input reads as it did. -/
def guardFrontUptoRow : OpenClaim := { program := "ytdgkedpggmkclaa", sum := "819c0c7a10fdef33aee945e86045c9f4d3a50c4f27ff806f4f1d2c05d9166d92", func := "deadheat/deadheatkeep.GuardFront", spec := "guardFront", unfollowed := true, recurses := true, apart := false, narrowed := true }
def GuardFrontUptoSaid : Prop := guardFrontUptoRow.holds Try.pinned (OpenSpec.upto guardFrontSpec)

/-- 'deadheatkeep.GuardKeeps', WHERE WHAT IT READS IS OF BULK AT MOST 1048576: true; the input reads as it did. -/
def guardKeepsUptoRow : OpenClaim := { program := "ytdgkedpggmkclaa", sum := "819c0c7a10fdef33aee945e86045c9f4d3a50c4f27ff806f4f1d2c05d9166d92", func := "deadheat/deadheatkeep.GuardKeeps", spec := "guardKeeps", unfollowed := true, recurses := true, apart := false, narrowed := true }
def GuardKeepsUptoSaid : Prop := guardKeepsUptoRow.holds Try.pinned (OpenSpec.upto guardKeepsSpec)

/-- 'deadheatkeep.GuardStates', WHERE WHAT IT READS IS OF BULK AT MOST 1048576: true; the input reads as it did. -/
def guardStatesUptoRow : OpenClaim := { program := "ytdgkedpggmkclaa", sum := "819c0c7a10fdef33aee945e86045c9f4d3a50c4f27ff806f4f1d2c05d9166d92", func := "deadheat/deadheatkeep.GuardStates", spec := "guardStates", unfollowed := true, recurses := true, apart := false, narrowed := true }
def GuardStatesUptoSaid : Prop := guardStatesUptoRow.holds Try.pinned (OpenSpec.upto guardStatesSpec)

/-- 'deadheatkeep.GuardOne', WHERE WHAT IT READS IS OF BULK AT MOST 1048576: true; the input reads as it did. -/
def guardOneUptoRow : OpenClaim := { program := "ytdgkedpggmkclaa", sum := "819c0c7a10fdef33aee945e86045c9f4d3a50c4f27ff806f4f1d2c05d9166d92", func := "deadheat/deadheatkeep.GuardOne", spec := "guardOne", unfollowed := true, recurses := true, apart := false, narrowed := true }
def GuardOneUptoSaid : Prop := guardOneUptoRow.holds Try.pinned (OpenSpec.upto guardOneSpec)

end Rows
end Go.Proofs.Ytdgkedpggmkclaa
