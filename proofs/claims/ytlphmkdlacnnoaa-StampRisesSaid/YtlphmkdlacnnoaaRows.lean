/-
  No cell of these rows narrows 'for every input' (looked for: loops, veiled, ifaces, maps, wideKeys, modest, calm, conditions, laid).
  DERIVED. THE GIVEN ROWS OF THIS SEAT. 11 by the template 'for every input the law returns true; each argument reads behind the call as it read before'; 0 by the template 'total and deterministic' (their statements: YtlphmkdlacnnoaaTotals.lean).
  GIVEN WITH THE SEED: the statements are not yours to turn. If you find one false, say at which input.
  Laid BY PROGRAM, IN A SANDBOX (cutbox-rows.mjs): the forced cells as the released guide's own fill.sh prints them over the translation b15bfc68dd6391c4… (all of the seat's roots in one cut). By AI agents, Wed Nov 11 2026. No macro, syntax, notation, axiom, sorry.
-/
import Derived.Test.YtlphmkdlacnnoaaChecked
import GoSem.Claim
import GoSem.ClaimJoined
import GoSem.ClaimMapViews
import Derived.JoinedTies
import Derived.KernelRfl
namespace Go.Proofs.Ytlphmkdlacnnoaa
/- THE CELL 'sum', in the pinned program and in every row, IS THE sha256 OF THE DUMP (.gsa) THAT YtlphmkdlacnnoaaProg.lean LOADS. Nothing in Lean hashes anything: it is a label: what it is worth is what the hold of that sum in a sandbox is worth. -/
noncomputable def Try.pinned : Pinned := { name := "ytlphmkdlacnnoaa", sum := "b15bfc68dd6391c44c9d19bfdd53626c2b2b6cc3a8c16730c91ee951b31b57a4", checked := Try.checked }
namespace Rows
def none {H : Type} : Left H := { results := [], args := [] }

/-- 'deadheatkeep.OrderStrict': WHATEVER THE INPUT: true; the input reads as it did. -/
def orderStrictSpec : ChangeSpec := { name := "orderStrict", fn := fun _ => fun
  | [d] => { results := [.lit (.bool true)], args := [d] }
  | _ => none }
def orderStrictRow : OpenClaim := { program := "ytlphmkdlacnnoaa", sum := "b15bfc68dd6391c44c9d19bfdd53626c2b2b6cc3a8c16730c91ee951b31b57a4", func := "deadheat/deadheatkeep.OrderStrict", spec := "orderStrict", unfollowed := true, recurses := true, plainKeys := false, apart := false }
def OrderStrictSaid : Prop := orderStrictRow.holds Try.pinned (OpenSpec.ofChange orderStrictSpec)

/-- ITS FALSE NEIGHBOUR: 'it returns false'. Refute it at one input. -/
def orderStrictWrong : ChangeSpec := { name := "orderStrict", fn := fun _ => fun
  | [d] => { results := [.lit (.bool false)], args := [d] }
  | _ => none }
def OrderStrictWrongFalsely : Prop := orderStrictRow.holds Try.pinned (OpenSpec.ofChange orderStrictWrong)

/-- 'deadheatkeep.OrderThread': WHATEVER THE INPUT: true; the input reads as it did. -/
def orderThreadSpec : ChangeSpec := { name := "orderThread", fn := fun _ => fun
  | [d] => { results := [.lit (.bool true)], args := [d] }
  | _ => none }
def orderThreadRow : OpenClaim := { program := "ytlphmkdlacnnoaa", sum := "b15bfc68dd6391c44c9d19bfdd53626c2b2b6cc3a8c16730c91ee951b31b57a4", func := "deadheat/deadheatkeep.OrderThread", spec := "orderThread", unfollowed := true, recurses := true, plainKeys := false, apart := false }
def OrderThreadSaid : Prop := orderThreadRow.holds Try.pinned (OpenSpec.ofChange orderThreadSpec)

/-- ITS FALSE NEIGHBOUR: 'it returns false'. Refute it at one input. -/
def orderThreadWrong : ChangeSpec := { name := "orderThread", fn := fun _ => fun
  | [d] => { results := [.lit (.bool false)], args := [d] }
  | _ => none }
def OrderThreadWrongFalsely : Prop := orderThreadRow.holds Try.pinned (OpenSpec.ofChange orderThreadWrong)

/-- 'deadheatkeep.OrderLocks': WHATEVER THE INPUT: true; the input reads as it did. -/
def orderLocksSpec : ChangeSpec := { name := "orderLocks", fn := fun _ => fun
  | [d] => { results := [.lit (.bool true)], args := [d] }
  | _ => none }
def orderLocksRow : OpenClaim := { program := "ytlphmkdlacnnoaa", sum := "b15bfc68dd6391c44c9d19bfdd53626c2b2b6cc3a8c16730c91ee951b31b57a4", func := "deadheat/deadheatkeep.OrderLocks", spec := "orderLocks", unfollowed := true, recurses := true, plainKeys := false, apart := false }
def OrderLocksSaid : Prop := orderLocksRow.holds Try.pinned (OpenSpec.ofChange orderLocksSpec)

/-- ITS FALSE NEIGHBOUR: 'it returns false'. Refute it at one input. -/
def orderLocksWrong : ChangeSpec := { name := "orderLocks", fn := fun _ => fun
  | [d] => { results := [.lit (.bool false)], args := [d] }
  | _ => none }
def OrderLocksWrongFalsely : Prop := orderLocksRow.holds Try.pinned (OpenSpec.ofChange orderLocksWrong)

/-- 'deadheatkeep.OrderForks': WHATEVER THE INPUT: true; the input reads as it did. -/
def orderForksSpec : ChangeSpec := { name := "orderForks", fn := fun _ => fun
  | [d] => { results := [.lit (.bool true)], args := [d] }
  | _ => none }
def orderForksRow : OpenClaim := { program := "ytlphmkdlacnnoaa", sum := "b15bfc68dd6391c44c9d19bfdd53626c2b2b6cc3a8c16730c91ee951b31b57a4", func := "deadheat/deadheatkeep.OrderForks", spec := "orderForks", unfollowed := true, recurses := true, plainKeys := false, apart := false }
def OrderForksSaid : Prop := orderForksRow.holds Try.pinned (OpenSpec.ofChange orderForksSpec)

/-- ITS FALSE NEIGHBOUR: 'it returns false'. Refute it at one input. -/
def orderForksWrong : ChangeSpec := { name := "orderForks", fn := fun _ => fun
  | [d] => { results := [.lit (.bool false)], args := [d] }
  | _ => none }
def OrderForksWrongFalsely : Prop := orderForksRow.holds Try.pinned (OpenSpec.ofChange orderForksWrong)

/-- 'deadheatkeep.OrderSteps': WHATEVER THE INPUT: true; the input reads as it did. -/
def orderStepsSpec : ChangeSpec := { name := "orderSteps", fn := fun _ => fun
  | [d] => { results := [.lit (.bool true)], args := [d] }
  | _ => none }
def orderStepsRow : OpenClaim := { program := "ytlphmkdlacnnoaa", sum := "b15bfc68dd6391c44c9d19bfdd53626c2b2b6cc3a8c16730c91ee951b31b57a4", func := "deadheat/deadheatkeep.OrderSteps", spec := "orderSteps", unfollowed := true, recurses := true, plainKeys := false, apart := false }
def OrderStepsSaid : Prop := orderStepsRow.holds Try.pinned (OpenSpec.ofChange orderStepsSpec)

/-- ITS FALSE NEIGHBOUR: 'it returns false'. Refute it at one input. -/
def orderStepsWrong : ChangeSpec := { name := "orderSteps", fn := fun _ => fun
  | [d] => { results := [.lit (.bool false)], args := [d] }
  | _ => none }
def OrderStepsWrongFalsely : Prop := orderStepsRow.holds Try.pinned (OpenSpec.ofChange orderStepsWrong)

/-- 'deadheatkeep.OrderFront': WHATEVER THE INPUT: true; the input reads as it did. -/
def orderFrontSpec : ChangeSpec := { name := "orderFront", fn := fun _ => fun
  | [d1, d2, d3, d4] => { results := [.lit (.bool true)], args := [d1, d2, d3, d4] }
  | _ => none }
def orderFrontRow : OpenClaim := { program := "ytlphmkdlacnnoaa", sum := "b15bfc68dd6391c44c9d19bfdd53626c2b2b6cc3a8c16730c91ee951b31b57a4", func := "deadheat/deadheatkeep.OrderFront", spec := "orderFront", unfollowed := true, recurses := true, plainKeys := false, apart := false }
def OrderFrontSaid : Prop := orderFrontRow.holds Try.pinned (OpenSpec.ofChange orderFrontSpec)

/-- ITS FALSE NEIGHBOUR: 'it returns false'. Refute it at one input. -/
def orderFrontWrong : ChangeSpec := { name := "orderFront", fn := fun _ => fun
  | [d1, d2, d3, d4] => { results := [.lit (.bool false)], args := [d1, d2, d3, d4] }
  | _ => none }
def OrderFrontWrongFalsely : Prop := orderFrontRow.holds Try.pinned (OpenSpec.ofChange orderFrontWrong)

/-- 'deadheatkeep.StampOwn': WHATEVER THE INPUT: true; the input reads as it did. -/
def stampOwnSpec : ChangeSpec := { name := "stampOwn", fn := fun _ => fun
  | [d] => { results := [.lit (.bool true)], args := [d] }
  | _ => none }
def stampOwnRow : OpenClaim := { program := "ytlphmkdlacnnoaa", sum := "b15bfc68dd6391c44c9d19bfdd53626c2b2b6cc3a8c16730c91ee951b31b57a4", func := "deadheat/deadheatkeep.StampOwn", spec := "stampOwn", unfollowed := true, recurses := true, plainKeys := false, apart := false }
def StampOwnSaid : Prop := stampOwnRow.holds Try.pinned (OpenSpec.ofChange stampOwnSpec)

/-- ITS FALSE NEIGHBOUR: 'it returns false'. Refute it at one input. -/
def stampOwnWrong : ChangeSpec := { name := "stampOwn", fn := fun _ => fun
  | [d] => { results := [.lit (.bool false)], args := [d] }
  | _ => none }
def StampOwnWrongFalsely : Prop := stampOwnRow.holds Try.pinned (OpenSpec.ofChange stampOwnWrong)

/-- 'deadheatkeep.StampPasses': WHATEVER THE INPUT: true; the input reads as it did. -/
def stampPassesSpec : ChangeSpec := { name := "stampPasses", fn := fun _ => fun
  | [d] => { results := [.lit (.bool true)], args := [d] }
  | _ => none }
def stampPassesRow : OpenClaim := { program := "ytlphmkdlacnnoaa", sum := "b15bfc68dd6391c44c9d19bfdd53626c2b2b6cc3a8c16730c91ee951b31b57a4", func := "deadheat/deadheatkeep.StampPasses", spec := "stampPasses", unfollowed := true, recurses := true, plainKeys := false, apart := false }
def StampPassesSaid : Prop := stampPassesRow.holds Try.pinned (OpenSpec.ofChange stampPassesSpec)

/-- ITS FALSE NEIGHBOUR: 'it returns false'. Refute it at one input. -/
def stampPassesWrong : ChangeSpec := { name := "stampPasses", fn := fun _ => fun
  | [d] => { results := [.lit (.bool false)], args := [d] }
  | _ => none }
def StampPassesWrongFalsely : Prop := stampPassesRow.holds Try.pinned (OpenSpec.ofChange stampPassesWrong)

/-- 'deadheatkeep.StampRises': WHATEVER THE INPUT: true; the input reads as it did. -/
def stampRisesSpec : ChangeSpec := { name := "stampRises", fn := fun _ => fun
  | [d] => { results := [.lit (.bool true)], args := [d] }
  | _ => none }
def stampRisesRow : OpenClaim := { program := "ytlphmkdlacnnoaa", sum := "b15bfc68dd6391c44c9d19bfdd53626c2b2b6cc3a8c16730c91ee951b31b57a4", func := "deadheat/deadheatkeep.StampRises", spec := "stampRises", unfollowed := true, recurses := true, plainKeys := false, apart := false }
def StampRisesSaid : Prop := stampRisesRow.holds Try.pinned (OpenSpec.ofChange stampRisesSpec)

/-- ITS FALSE NEIGHBOUR: 'it returns false'. Refute it at one input. -/
def stampRisesWrong : ChangeSpec := { name := "stampRises", fn := fun _ => fun
  | [d] => { results := [.lit (.bool false)], args := [d] }
  | _ => none }
def StampRisesWrongFalsely : Prop := stampRisesRow.holds Try.pinned (OpenSpec.ofChange stampRisesWrong)

/-- 'deadheatkeep.StampKnown': WHATEVER THE INPUT: true; the input reads as it did. -/
def stampKnownSpec : ChangeSpec := { name := "stampKnown", fn := fun _ => fun
  | [d1, d2] => { results := [.lit (.bool true)], args := [d1, d2] }
  | _ => none }
def stampKnownRow : OpenClaim := { program := "ytlphmkdlacnnoaa", sum := "b15bfc68dd6391c44c9d19bfdd53626c2b2b6cc3a8c16730c91ee951b31b57a4", func := "deadheat/deadheatkeep.StampKnown", spec := "stampKnown", unfollowed := true, recurses := true, plainKeys := false, apart := false }
def StampKnownSaid : Prop := stampKnownRow.holds Try.pinned (OpenSpec.ofChange stampKnownSpec)

/-- ITS FALSE NEIGHBOUR: 'it returns false'. Refute it at one input. -/
def stampKnownWrong : ChangeSpec := { name := "stampKnown", fn := fun _ => fun
  | [d1, d2] => { results := [.lit (.bool false)], args := [d1, d2] }
  | _ => none }
def StampKnownWrongFalsely : Prop := stampKnownRow.holds Try.pinned (OpenSpec.ofChange stampKnownWrong)

/-- 'deadheatkeep.StampMattern': WHATEVER THE INPUT: true; the input reads as it did. -/
def stampMatternSpec : ChangeSpec := { name := "stampMattern", fn := fun _ => fun
  | [d] => { results := [.lit (.bool true)], args := [d] }
  | _ => none }
def stampMatternRow : OpenClaim := { program := "ytlphmkdlacnnoaa", sum := "b15bfc68dd6391c44c9d19bfdd53626c2b2b6cc3a8c16730c91ee951b31b57a4", func := "deadheat/deadheatkeep.StampMattern", spec := "stampMattern", unfollowed := true, recurses := true, plainKeys := false, apart := false }
def StampMatternSaid : Prop := stampMatternRow.holds Try.pinned (OpenSpec.ofChange stampMatternSpec)

/-- ITS FALSE NEIGHBOUR: 'it returns false'. Refute it at one input. -/
def stampMatternWrong : ChangeSpec := { name := "stampMattern", fn := fun _ => fun
  | [d] => { results := [.lit (.bool false)], args := [d] }
  | _ => none }
def StampMatternWrongFalsely : Prop := stampMatternRow.holds Try.pinned (OpenSpec.ofChange stampMatternWrong)

/- THE SECOND FORM. 'bulk': how many values and letters a reading holds, each counted each time it is reached (what is shared counts as often as it is met; a slice's spare places count too). A statement '..UptoSaid' is the law's where the arguments, and the package variables that the reading takes, are together of bulk at most 1048576: NARROWER than '..Said'. Prove '..Said' where nothing that the law and all that it calls make is longer than what came in: it says more and counts as full. Else prove '..UptoSaid'. A law counts once. -/
mutual
def uptoBulk {H : Type} : DataW H → Nat
  | .lit (.string bytes) => bytes.length + 1
  | .lit _ => 1
  | .nil => 1
  | .ptr d => uptoBulk d + 1
  | .slice elems spare => uptoBulkAll elems + uptoBulkAll spare + 1
  | .agg parts => uptoBulkAll parts + 1
  | .iface _ d => uptoBulk d + 1
  | .map entries => uptoBulkEntries entries + 1
  | .held _ => 1
def uptoBulkAll {H : Type} : List (DataW H) → Nat
  | [] => 0
  | d :: r => uptoBulk d + uptoBulkAll r
def uptoBulkEntries {H : Type} : List (Lit × DataW H) → Nat
  | [] => 0
  | x :: r => uptoBulkEntry x + uptoBulkEntries r
def uptoBulkEntry {H : Type} : Lit × DataW H → Nat
  | (.string bytes, d) => bytes.length + uptoBulk d + 1
  | (_, d) => uptoBulk d + 1
 end
def uptoSmall : (H : Type) → List (DataW H) → Bool := fun _ ds => decide (uptoBulkAll ds ≤ 1048576)
def OpenSpec.upto (s : _root_.Go.ChangeSpec) : _root_.Go.OpenSpec := { _root_.Go.OpenSpec.ofChange s with cond := some uptoSmall }

/-- 'deadheatkeep.OrderStrict', WHERE WHAT IT READS IS OF BULK AT MOST 1048576: true; the input reads as it did. -/
def orderStrictUptoRow : OpenClaim := { program := "ytlphmkdlacnnoaa", sum := "b15bfc68dd6391c44c9d19bfdd53626c2b2b6cc3a8c16730c91ee951b31b57a4", func := "deadheat/deadheatkeep.OrderStrict", spec := "orderStrict", unfollowed := true, recurses := true, plainKeys := false, apart := false, narrowed := true }
def OrderStrictUptoSaid : Prop := orderStrictUptoRow.holds Try.pinned (OpenSpec.upto orderStrictSpec)

/-- 'deadheatkeep.OrderThread', WHERE WHAT IT READS IS OF BULK AT MOST 1048576: true; the input reads as it did. -/
def orderThreadUptoRow : OpenClaim := { program := "ytlphmkdlacnnoaa", sum := "b15bfc68dd6391c44c9d19bfdd53626c2b2b6cc3a8c16730c91ee951b31b57a4", func := "deadheat/deadheatkeep.OrderThread", spec := "orderThread", unfollowed := true, recurses := true, plainKeys := false, apart := false, narrowed := true }
def OrderThreadUptoSaid : Prop := orderThreadUptoRow.holds Try.pinned (OpenSpec.upto orderThreadSpec)

/-- 'deadheatkeep.OrderLocks', WHERE WHAT IT READS IS OF BULK AT MOST 1048576: true; the input reads as it did. -/
def orderLocksUptoRow : OpenClaim := { program := "ytlphmkdlacnnoaa", sum := "b15bfc68dd6391c44c9d19bfdd53626c2b2b6cc3a8c16730c91ee951b31b57a4", func := "deadheat/deadheatkeep.OrderLocks", spec := "orderLocks", unfollowed := true, recurses := true, plainKeys := false, apart := false, narrowed := true }
def OrderLocksUptoSaid : Prop := orderLocksUptoRow.holds Try.pinned (OpenSpec.upto orderLocksSpec)

/-- 'deadheatkeep.OrderForks', WHERE WHAT IT READS IS OF BULK AT MOST 1048576: true; the input reads as it did. -/
def orderForksUptoRow : OpenClaim := { program := "ytlphmkdlacnnoaa", sum := "b15bfc68dd6391c44c9d19bfdd53626c2b2b6cc3a8c16730c91ee951b31b57a4", func := "deadheat/deadheatkeep.OrderForks", spec := "orderForks", unfollowed := true, recurses := true, plainKeys := false, apart := false, narrowed := true }
def OrderForksUptoSaid : Prop := orderForksUptoRow.holds Try.pinned (OpenSpec.upto orderForksSpec)

/-- 'deadheatkeep.OrderSteps', WHERE WHAT IT READS IS OF BULK AT MOST 1048576: true; the input reads as it did. -/
def orderStepsUptoRow : OpenClaim := { program := "ytlphmkdlacnnoaa", sum := "b15bfc68dd6391c44c9d19bfdd53626c2b2b6cc3a8c16730c91ee951b31b57a4", func := "deadheat/deadheatkeep.OrderSteps", spec := "orderSteps", unfollowed := true, recurses := true, plainKeys := false, apart := false, narrowed := true }
def OrderStepsUptoSaid : Prop := orderStepsUptoRow.holds Try.pinned (OpenSpec.upto orderStepsSpec)

/-- 'deadheatkeep.OrderFront', WHERE WHAT IT READS IS OF BULK AT MOST 1048576: true; the input reads as it did. -/
def orderFrontUptoRow : OpenClaim := { program := "ytlphmkdlacnnoaa", sum := "b15bfc68dd6391c44c9d19bfdd53626c2b2b6cc3a8c16730c91ee951b31b57a4", func := "deadheat/deadheatkeep.OrderFront", spec := "orderFront", unfollowed := true, recurses := true, plainKeys := false, apart := false, narrowed := true }
def OrderFrontUptoSaid : Prop := orderFrontUptoRow.holds Try.pinned (OpenSpec.upto orderFrontSpec)

/-- 'deadheatkeep.StampOwn', WHERE WHAT IT READS IS OF BULK AT MOST 1048576: true; the input reads as it did. -/
def stampOwnUptoRow : OpenClaim := { program := "ytlphmkdlacnnoaa", sum := "b15bfc68dd6391c44c9d19bfdd53626c2b2b6cc3a8c16730c91ee951b31b57a4", func := "deadheat/deadheatkeep.StampOwn", spec := "stampOwn", unfollowed := true, recurses := true, plainKeys := false, apart := false, narrowed := true }
def StampOwnUptoSaid : Prop := stampOwnUptoRow.holds Try.pinned (OpenSpec.upto stampOwnSpec)

/-- 'deadheatkeep.StampPasses', WHERE WHAT IT READS IS OF BULK AT MOST 1048576: true; the input reads as it did. -/
def stampPassesUptoRow : OpenClaim := { program := "ytlphmkdlacnnoaa", sum := "b15bfc68dd6391c44c9d19bfdd53626c2b2b6cc3a8c16730c91ee951b31b57a4", func := "deadheat/deadheatkeep.StampPasses", spec := "stampPasses", unfollowed := true, recurses := true, plainKeys := false, apart := false, narrowed := true }
def StampPassesUptoSaid : Prop := stampPassesUptoRow.holds Try.pinned (OpenSpec.upto stampPassesSpec)

/-- 'deadheatkeep.StampRises', WHERE WHAT IT READS IS OF BULK AT MOST 1048576: true; the input reads as it did. -/
def stampRisesUptoRow : OpenClaim := { program := "ytlphmkdlacnnoaa", sum := "b15bfc68dd6391c44c9d19bfdd53626c2b2b6cc3a8c16730c91ee951b31b57a4", func := "deadheat/deadheatkeep.StampRises", spec := "stampRises", unfollowed := true, recurses := true, plainKeys := false, apart := false, narrowed := true }
def StampRisesUptoSaid : Prop := stampRisesUptoRow.holds Try.pinned (OpenSpec.upto stampRisesSpec)

/-- 'deadheatkeep.StampKnown', WHERE WHAT IT READS IS OF BULK AT MOST 1048576: true; the input reads as it did. -/
def stampKnownUptoRow : OpenClaim := { program := "ytlphmkdlacnnoaa", sum := "b15bfc68dd6391c44c9d19bfdd53626c2b2b6cc3a8c16730c91ee951b31b57a4", func := "deadheat/deadheatkeep.StampKnown", spec := "stampKnown", unfollowed := true, recurses := true, plainKeys := false, apart := false, narrowed := true }
def StampKnownUptoSaid : Prop := stampKnownUptoRow.holds Try.pinned (OpenSpec.upto stampKnownSpec)

/-- 'deadheatkeep.StampMattern', WHERE WHAT IT READS IS OF BULK AT MOST 1048576: true; the input reads as it did. -/
def stampMatternUptoRow : OpenClaim := { program := "ytlphmkdlacnnoaa", sum := "b15bfc68dd6391c44c9d19bfdd53626c2b2b6cc3a8c16730c91ee951b31b57a4", func := "deadheat/deadheatkeep.StampMattern", spec := "stampMattern", unfollowed := true, recurses := true, plainKeys := false, apart := false, narrowed := true }
def StampMatternUptoSaid : Prop := stampMatternUptoRow.holds Try.pinned (OpenSpec.upto stampMatternSpec)

end Rows
end Go.Proofs.Ytlphmkdlacnnoaa
