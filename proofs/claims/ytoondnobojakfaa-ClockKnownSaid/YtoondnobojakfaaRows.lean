/-
  No cell of these rows narrows 'for every input' (looked for: loops, veiled, ifaces, maps, wideKeys, modest, calm, conditions, laid).
  DERIVED. THE GIVEN ROWS OF THIS SEAT. 6 by the template 'for every input the law returns true; each argument reads behind the call as it read before'; 0 by the template 'total and deterministic' (their statements: YtoondnobojakfaaTotals.lean).
  GIVEN WITH THE SEED: the statements are not yours to turn. If you find one false, say at which input.
  Laid BY PROGRAM, IN A SANDBOX (cutbox-rows.mjs): the forced cells as the released guide's own fill.sh prints them over the translation 2663502338026f02… (all of the seat's roots in one cut). By AI agents, Wed Nov 11 2026. No macro, syntax, notation, axiom, sorry.
-/
import Derived.Test.YtoondnobojakfaaChecked
import GoSem.Claim
import GoSem.ClaimJoined
import GoSem.ClaimMapViews
import Derived.JoinedTies
import Derived.KernelRfl
namespace Go.Proofs.Ytoondnobojakfaa
/- THE CELL 'sum', in the pinned program and in every row, IS THE sha256 OF THE DUMP (.gsa) THAT YtoondnobojakfaaProg.lean LOADS. Nothing in Lean hashes anything: it is a label: what it is worth is what the hold of that sum in a sandbox is worth. -/
noncomputable def Try.pinned : Pinned := { name := "ytoondnobojakfaa", sum := "2663502338026f02267729b2588f1f6d83192b66936eed3697b4ccd46ff8264d", checked := Try.checked }
namespace Rows
def none {H : Type} : Left H := { results := [], args := [] }

/-- 'deadheatkeep.ClockOrder': WHATEVER THE INPUT: true; the input reads as it did. -/
def clockOrderSpec : ChangeSpec := { name := "clockOrder", fn := fun _ => fun
  | [d1, d2, d3] => { results := [.lit (.bool true)], args := [d1, d2, d3] }
  | _ => none }
def clockOrderRow : OpenClaim := { program := "ytoondnobojakfaa", sum := "2663502338026f02267729b2588f1f6d83192b66936eed3697b4ccd46ff8264d", func := "deadheat/deadheatkeep.ClockOrder", spec := "clockOrder", unfollowed := true, recurses := true, apart := false }
def ClockOrderSaid : Prop := clockOrderRow.holds Try.pinned (OpenSpec.ofChange clockOrderSpec)

/-- ITS FALSE NEIGHBOUR: 'it returns false'. Refute it at one input. -/
def clockOrderWrong : ChangeSpec := { name := "clockOrder", fn := fun _ => fun
  | [d1, d2, d3] => { results := [.lit (.bool false)], args := [d1, d2, d3] }
  | _ => none }
def ClockOrderWrongFalsely : Prop := clockOrderRow.holds Try.pinned (OpenSpec.ofChange clockOrderWrong)

/-- 'deadheatkeep.ClockSides': WHATEVER THE INPUT: true; the input reads as it did. -/
def clockSidesSpec : ChangeSpec := { name := "clockSides", fn := fun _ => fun
  | [d1, d2] => { results := [.lit (.bool true)], args := [d1, d2] }
  | _ => none }
def clockSidesRow : OpenClaim := { program := "ytoondnobojakfaa", sum := "2663502338026f02267729b2588f1f6d83192b66936eed3697b4ccd46ff8264d", func := "deadheat/deadheatkeep.ClockSides", spec := "clockSides", unfollowed := true, recurses := true, apart := false }
def ClockSidesSaid : Prop := clockSidesRow.holds Try.pinned (OpenSpec.ofChange clockSidesSpec)

/-- ITS FALSE NEIGHBOUR: 'it returns false'. Refute it at one input. -/
def clockSidesWrong : ChangeSpec := { name := "clockSides", fn := fun _ => fun
  | [d1, d2] => { results := [.lit (.bool false)], args := [d1, d2] }
  | _ => none }
def ClockSidesWrongFalsely : Prop := clockSidesRow.holds Try.pinned (OpenSpec.ofChange clockSidesWrong)

/-- 'deadheatkeep.ClockLattice': WHATEVER THE INPUT: true; the input reads as it did. -/
def clockLatticeSpec : ChangeSpec := { name := "clockLattice", fn := fun _ => fun
  | [d1, d2, d3] => { results := [.lit (.bool true)], args := [d1, d2, d3] }
  | _ => none }
def clockLatticeRow : OpenClaim := { program := "ytoondnobojakfaa", sum := "2663502338026f02267729b2588f1f6d83192b66936eed3697b4ccd46ff8264d", func := "deadheat/deadheatkeep.ClockLattice", spec := "clockLattice", unfollowed := true, recurses := true, apart := false }
def ClockLatticeSaid : Prop := clockLatticeRow.holds Try.pinned (OpenSpec.ofChange clockLatticeSpec)

/-- ITS FALSE NEIGHBOUR: 'it returns false'. Refute it at one input. -/
def clockLatticeWrong : ChangeSpec := { name := "clockLattice", fn := fun _ => fun
  | [d1, d2, d3] => { results := [.lit (.bool false)], args := [d1, d2, d3] }
  | _ => none }
def ClockLatticeWrongFalsely : Prop := clockLatticeRow.holds Try.pinned (OpenSpec.ofChange clockLatticeWrong)

/-- 'deadheatkeep.ClockKnown': WHATEVER THE INPUT: true; the input reads as it did. -/
def clockKnownSpec : ChangeSpec := { name := "clockKnown", fn := fun _ => fun
  | [d1, d2] => { results := [.lit (.bool true)], args := [d1, d2] }
  | _ => none }
def clockKnownRow : OpenClaim := { program := "ytoondnobojakfaa", sum := "2663502338026f02267729b2588f1f6d83192b66936eed3697b4ccd46ff8264d", func := "deadheat/deadheatkeep.ClockKnown", spec := "clockKnown", unfollowed := true, recurses := true, apart := false }
def ClockKnownSaid : Prop := clockKnownRow.holds Try.pinned (OpenSpec.ofChange clockKnownSpec)

/-- ITS FALSE NEIGHBOUR: 'it returns false'. Refute it at one input. -/
def clockKnownWrong : ChangeSpec := { name := "clockKnown", fn := fun _ => fun
  | [d1, d2] => { results := [.lit (.bool false)], args := [d1, d2] }
  | _ => none }
def ClockKnownWrongFalsely : Prop := clockKnownRow.holds Try.pinned (OpenSpec.ofChange clockKnownWrong)

/-- 'deadheatkeep.ClockRises': WHATEVER THE INPUT: true; the input reads as it did. -/
def clockRisesSpec : ChangeSpec := { name := "clockRises", fn := fun _ => fun
  | [d1, d2] => { results := [.lit (.bool true)], args := [d1, d2] }
  | _ => none }
def clockRisesRow : OpenClaim := { program := "ytoondnobojakfaa", sum := "2663502338026f02267729b2588f1f6d83192b66936eed3697b4ccd46ff8264d", func := "deadheat/deadheatkeep.ClockRises", spec := "clockRises", unfollowed := true, recurses := true, apart := false }
def ClockRisesSaid : Prop := clockRisesRow.holds Try.pinned (OpenSpec.ofChange clockRisesSpec)

/-- ITS FALSE NEIGHBOUR: 'it returns false'. Refute it at one input. -/
def clockRisesWrong : ChangeSpec := { name := "clockRises", fn := fun _ => fun
  | [d1, d2] => { results := [.lit (.bool false)], args := [d1, d2] }
  | _ => none }
def ClockRisesWrongFalsely : Prop := clockRisesRow.holds Try.pinned (OpenSpec.ofChange clockRisesWrong)

/-- 'deadheatkeep.ClockCounts': WHATEVER THE INPUT: true; the input reads as it did. -/
def clockCountsSpec : ChangeSpec := { name := "clockCounts", fn := fun _ => fun
  | [d1, d2] => { results := [.lit (.bool true)], args := [d1, d2] }
  | _ => none }
def clockCountsRow : OpenClaim := { program := "ytoondnobojakfaa", sum := "2663502338026f02267729b2588f1f6d83192b66936eed3697b4ccd46ff8264d", func := "deadheat/deadheatkeep.ClockCounts", spec := "clockCounts", unfollowed := true, recurses := true, apart := false }
def ClockCountsSaid : Prop := clockCountsRow.holds Try.pinned (OpenSpec.ofChange clockCountsSpec)

/-- ITS FALSE NEIGHBOUR: 'it returns false'. Refute it at one input. -/
def clockCountsWrong : ChangeSpec := { name := "clockCounts", fn := fun _ => fun
  | [d1, d2] => { results := [.lit (.bool false)], args := [d1, d2] }
  | _ => none }
def ClockCountsWrongFalsely : Prop := clockCountsRow.holds Try.pinned (OpenSpec.ofChange clockCountsWrong)

/- THE SECOND FORM. 'bulk': how many values and letters a reading holds, each counted each time it is reached (what is shared counts as often as it is met; a slice's spare places count too). A statement '..UptoSaid' is the law's where the arguments, and the package variables that the reading takes, are together of bulk at most 1048576: NARROWER than '..Said'. Prove '..Said' where nothing that the law and all that it calls make is longer than what came in: it says more and counts as full. Else prove '..UptoSaid'. A law counts once. -/
mutual
def uptoBulk {H : Type} : DataW H → Nat
  | .lit (.string bytes) => bytes.length + 1
  | .lit _ => 1
  | .nil => 1
  | .ptr d => uptoBulk d + 1
  | .slice elems spare => uptoBulkAll elems + uptoBulkAll spare + 1
  | .agg parts => uptoBulkAll parts + 1
  | .iface _ d => uptoBulk d + 1
  | .map entries => uptoBulkEntries entries + 1
  | .held _ => 1
def uptoBulkAll {H : Type} : List (DataW H) → Nat
  | [] => 0
  | d :: r => uptoBulk d + uptoBulkAll r
def uptoBulkEntries {H : Type} : List (Lit × DataW H) → Nat
  | [] => 0
  | x :: r => uptoBulkEntry x + uptoBulkEntries r
def uptoBulkEntry {H : Type} : Lit × DataW H → Nat
  | (.string bytes, d) => bytes.length + uptoBulk d + 1
  | (_, d) => uptoBulk d + 1
 end
def uptoSmall : (H : Type) → List (DataW H) → Bool := fun _ ds => decide (uptoBulkAll ds ≤ 1048576)
def OpenSpec.upto (s : _root_.Go.ChangeSpec) : _root_.Go.OpenSpec := { _root_.Go.OpenSpec.ofChange s with cond := some uptoSmall }

/-- 'deadheatkeep.ClockOrder', WHERE WHAT IT READS IS OF BULK AT MOST 1048576: true; the input reads as it did. -/
def clockOrderUptoRow : OpenClaim := { program := "ytoondnobojakfaa", sum := "2663502338026f02267729b2588f1f6d83192b66936eed3697b4ccd46ff8264d", func := "deadheat/deadheatkeep.ClockOrder", spec := "clockOrder", unfollowed := true, recurses := true, apart := false, narrowed := true }
def ClockOrderUptoSaid : Prop := clockOrderUptoRow.holds Try.pinned (OpenSpec.upto clockOrderSpec)

/-- 'deadheatkeep.ClockSides', WHERE WHAT IT READS IS OF BULK AT MOST 1048576: true; the input reads as it did. -/
def clockSidesUptoRow : OpenClaim := { program := "ytoondnobojakfaa", sum := "2663502338026f02267729b2588f1f6d83192b66936eed3697b4ccd46ff8264d", func := "deadheat/deadheatkeep.ClockSides", spec := "clockSides", unfollowed := true, recurses := true, apart := false, narrowed := true }
def ClockSidesUptoSaid : Prop := clockSidesUptoRow.holds Try.pinned (OpenSpec.upto clockSidesSpec)

/-- 'deadheatkeep.ClockLattice', WHERE WHAT IT READS IS OF BULK AT MOST 1048576: true; the input reads as it did. -/
def clockLatticeUptoRow : OpenClaim := { program := "ytoondnobojakfaa", sum := "2663502338026f02267729b2588f1f6d83192b66936eed3697b4ccd46ff8264d", func := "deadheat/deadheatkeep.ClockLattice", spec := "clockLattice", unfollowed := true, recurses := true, apart := false, narrowed := true }
def ClockLatticeUptoSaid : Prop := clockLatticeUptoRow.holds Try.pinned (OpenSpec.upto clockLatticeSpec)

/-- 'deadheatkeep.ClockKnown', WHERE WHAT IT READS IS OF BULK AT MOST 1048576: true; the input reads as it did. -/
def clockKnownUptoRow : OpenClaim := { program := "ytoondnobojakfaa", sum := "2663502338026f02267729b2588f1f6d83192b66936eed3697b4ccd46ff8264d", func := "deadheat/deadheatkeep.ClockKnown", spec := "clockKnown", unfollowed := true, recurses := true, apart := false, narrowed := true }
def ClockKnownUptoSaid : Prop := clockKnownUptoRow.holds Try.pinned (OpenSpec.upto clockKnownSpec)

/-- 'deadheatkeep.ClockRises', WHERE WHAT IT READS IS OF BULK AT MOST 1048576: true; the input reads as it did. -/
def clockRisesUptoRow : OpenClaim := { program := "ytoondnobojakfaa", sum := "2663502338026f02267729b2588f1f6d83192b66936eed3697b4ccd46ff8264d", func := "deadheat/deadheatkeep.ClockRises", spec := "clockRises", unfollowed := true, recurses := true, apart := false, narrowed := true }
def ClockRisesUptoSaid : Prop := clockRisesUptoRow.holds Try.pinned (OpenSpec.upto clockRisesSpec)

/-- 'deadheatkeep.ClockCounts', WHERE WHAT IT READS IS OF BULK AT MOST 1048576: true; the input reads as it did. -/
def clockCountsUptoRow : OpenClaim := { program := "ytoondnobojakfaa", sum := "2663502338026f02267729b2588f1f6d83192b66936eed3697b4ccd46ff8264d", func := "deadheat/deadheatkeep.ClockCounts", spec := "clockCounts", unfollowed := true, recurses := true, apart := false, narrowed := true }
def ClockCountsUptoSaid : Prop := clockCountsUptoRow.holds Try.pinned (OpenSpec.upto clockCountsSpec)

end Rows
end Go.Proofs.Ytoondnobojakfaa
