/- Regions that draw their order, whose operations only read and whose callees leave what lay before as it was: walked once, in the order of the text. No program. -/
import Derived.Test.YtmeidjhojanogaaDoorBase
import Derived.Deep.QuietTactic
import Derived.NoCompiler
namespace Go.Proofs.YtmeidjhojanogaaDoor
open Go.RowKit

/-- The worlds behind w in which all that lay in w lies as it lay. -/
structure Beyond (w : World) where
  to : World
  below : Below w.heap.size w to
instance (w : World) : Inhabited (Beyond w) := ⟨⟨w, Below.refl _ _⟩⟩
theorem Beyond.cell {w : World} (p : Beyond w) {a : Addr} {v : Value} (h : w.cell? a = some v) : p.to.cell? a = some v :=
  (p.below.cell (World.block_lt_of_cell? w _ h)).trans h
section
variable {P : Program} {w : World}
theorem wp_region_beyond {id : Nat} {Q : Exit → Act → World → Prop} {a : Act} {l : List Oper} (hm : P.follows .mixedOrders = true) (hB : Region.lexB .any l.toArray = true)
    (h : wpQuiet P l.toArray (fun w' => ∃ p : Beyond w, w' = p.to) (fun a' => ∀ w', (∃ p : Beyond w, w' = p.to) → Q .normal a' w') l a) : (Code.region id l.toArray true).wp P Q a w :=
  wp_region_quiet (C := fun w' => ∃ p : Beyond w, w' = p.to) hm hB ⟨⟨_, (Below.refl _ _).drew⟩, rfl⟩ (by simpa using h)
theorem beyond_of {f : FuncId} {args : Array Value} {p : Beyond w} {v : Value}
    (h : Calls P f args p.to fun e w' => e = .returned v ∧ Below p.to.heap.size p.to w') : Calls P f args p.to fun e w'' => e = .returned v ∧ ∃ q : Beyond w, w'' = q.to :=
  h.mono fun _ _ ⟨he, hk⟩ => ⟨he, ⟨⟨_, p.below.trans (hk.mono p.below.size)⟩, rfl⟩⟩
end
end Go.Proofs.YtmeidjhojanogaaDoor
