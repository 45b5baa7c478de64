/- Slices of ints; membership and equality of lists. No program. -/
import Derived.Test.YtmeidjhojanogaaDoorBase
namespace Go.Proofs.YtmeidjhojanogaaDoor
open Go.RowKit

/-- Is it in a list? (a plain definition, which the walk leaves alone) -/
def hasB {α : Type} [DecidableEq α] (l : List α) (x : α) : Bool := decide (x ∈ l)
theorem hasB_iff {α : Type} [DecidableEq α] {l : List α} {x : α} : hasB l x = true ↔ x ∈ l := by simp [hasB]
/-- Are two lists equal? -/
def eqB {α : Type} [DecidableEq α] (l m : List α) : Bool := decide (l = m)
theorem eqB_iff {α : Type} [DecidableEq α] {l m : List α} : eqB l m = true ↔ l = m := by simp [eqB]

/-- A slice of ints: its elements read as a list. -/
structure IntS (w : World) (a : Option Addr) (l : List Int) : Prop where
  big : l.length < 4611686018427387904
  ok : l = [] ∨ ∃ b o, a = some ⟨b, o, none⟩ ∧ ∀ i (h : i < l.length), w.cell? ⟨b, o + i, none⟩ = some (.int .i64 l[i])
theorem IntS.below {w w' : World} {a : Option Addr} {l : List Int} (h : IntS w a l) (k : Below w.heap.size w w') : IntS w' a l := by
  refine ⟨h.big, ?_⟩
  rcases h.ok with h0 | ⟨b, o, ha, hc⟩
  · exact .inl h0
  · exact .inr ⟨b, o, ha, fun i hi => (k.cell (World.block_lt_of_cell? w _ (hc i hi))).trans (hc i hi)⟩
theorem IntS.at {w : World} {a : Option Addr} {l : List Int} (h : IntS w a l) {i : Nat} (hi : i < l.length) : ∃ b o, a = some ⟨b, o, none⟩ ∧ w.cell? ⟨b, o + i, none⟩ = some (.int .i64 l[i]) := by
  rcases h.ok with h0 | ⟨b, o, ha, hc⟩
  · simp [h0] at hi
  · exact ⟨b, o, ha, hc i hi⟩

end Go.Proofs.YtmeidjhojanogaaDoor
