/- Graph: contract. -/
import Derived.Test.YtoohconipcleiaaGrP
import Derived.Test.YtoohconipcleiaaMD
import Derived.Test.YtoohconipcleiaaMM
import Derived.Test.YtoohconipcleiaaRgE
import Derived.Deep.DeepCutAuto
namespace Go.Proofs.Ytoohconipcleiaa
open Go.RowKit Go.Maps

theorem idx5i (f : Nat → Int) {k : Nat} (hk : k < 5) (w : World) : (Instr.index 88 (.agg #[.int .i64 (f 0), .int .i64 (f 1), .int .i64 (f 2), .int .i64 (f 3), .int .i64 (f 4)]) (.int .i64 (k : Int))).run Try.prog w = .ok (.int .i64 (f k)) w := by
  rcases (by omega : k = 0 ∨ k = 1 ∨ k = 2 ∨ k = 3 ∨ k = 4) with rfl | rfl | rfl | rfl | rfl <;> kernel_rfl
theorem MapP.kept' {w w' : World} {b n : Nat} {L : List (Int × Int)} (h : MapP w b n L) (k : Below w.heap.size w w') : MapP w' b n L :=
  World.ownsMap.kept h (row := none) ⟨k.os, k.tape, k.output, k.size, fun i hi _ => k.block i hi⟩ (by simp)
theorem MapP.setCell {w : World} {b n : Nat} {L : List (Int × Int)} (h : MapP w b n L) (g i : Nat) (v : Value) (hne : b ≠ g) : MapP (w.setCell ⟨g, i, none⟩ v) b n L :=
  World.ownsMap.kept h (row := some g) ⟨rfl, rfl, rfl, by simp, fun j _ hj => Below.heap_setCell _ _ _ _ (by intro e; exact hj (by rw [e]))⟩ (by simpa using hne)
theorem nxt_else {s : St} {e : Ev} (h3 : e.k ≠ 3) (h4 : e.k ≠ 4) : (nxt s e).owner = s.owner := by
  unfold nxt
  rw [if_neg h3, if_neg h4]
  split
  · rfl
  · split <;> rfl
abbrev zo5 : Array Value := #[.int .i64 0, .int .i64 0, .int .i64 0, .int .i64 0, .int .i64 0]
/-- Pairs, or none. -/
def GraphPost (L : List (Int × Int)) (w : World) (r : Ending) (w' : World) : Prop := ∃ a c, r = .returned (.tuple #[.slice a L.length c, .int .i64 0]) ∧ PrS w' a L ∧ L.length ≤ c ∧ Below w.heap.size w w'
end Go.Proofs.Ytoohconipcleiaa
