/- Maps of ints (to ints, to bools) that the call makes: what they hold at each key. -/
import Derived.Test.YthfeakfakjecoaaChecked
import Derived.Test.YthfeakfakjecoaaBase
import Derived.Test.YthfeakfakjecoaaOpen
import Derived.Maps.OwnOps
import Derived.Maps.OwnSet
import Derived.Maps.AppendAt
namespace Go.Proofs.Ythfeakfakjecoaa
open Go.RowKit Go.Maps Go.WideShapes

theorem int_keys : Keyed Try.prog 3 := int_keyed Try.underlying3
theorem plainB_inv {P : Program} {e : TypeId} (he : P.underlying e = some .bool) {v : Value} {z : DataW Unit × List MemPlace} (h : plainElem P e v = some z) : ∃ x, v = .bool x ∧ z = (.lit (.bool x), []) := by
  unfold plainElem at h
  rw [he] at h
  cases v <;> simp at h
  exact ⟨_, rfl, h.symm⟩
/-- Block b is a map[int]int that reads so at each key. -/
structure MapI (w : World) (b n : Nat) (f : Int → Int) : Prop where
  out : ∃ D : DataW Unit, w.ownsMap Try.prog 3 (plainElem (H := Unit) Try.prog 3) b n D ∧ ∀ k, I64 k → D.atKey (.int .i64 k) (.lit (.int .i64 0)) = .lit (.int .i64 (f k))
theorem zero_I (w : World) : (zeroValue 3).run Try.prog w = .ok (.int .i64 0) w := by kernel_rfl
section
variable {w w' : World} {b n : Nat} {f : Int → Int}
theorem MapI.made (w : World) : MapI (w.alloc (.map #[] 0)) w.heap.size 0 (fun _ => 0) := ⟨_, World.ownsMap_made w _ _ _, fun _ _ => rfl⟩
theorem MapI.lt (h : MapI w b n f) : b < w.heap.size := by obtain ⟨D, h1, _⟩ := h.out; exact h1.lt
theorem MapI.look (h : MapI w b n f) {k : Int} (hk : I64 k) : (Instr.lookup 39 (.map (some b)) (.int .i64 k) false).run Try.prog w = .ok (.int .i64 (f k)) w := by
  obtain ⟨D, h1, h2⟩ := h.out
  obtain ⟨v, ps, hrun, hv⟩ := h1.lookup int_keys Try.underlying39 (zero_I w) (plainElem_int (q := .i64) (a := 0) Try.underlying3 (by decide)) (keyOf_int_mk (a := k) Try.underlying3 (WalkArith.wf_i64 hk))
  obtain ⟨x, rfl, hx, _⟩ := plainElem_int_inv Try.underlying3 hv
  have h2 := h2 k hk
  have hx' := congrArg Prod.fst hx
  simp only at hx'
  rw [h2] at hx'
  rw [hrun]
  simp at hx'
  rw [hx']
theorem MapI.put (h : MapI w b n f) (hn : n < maxLen) {k : Int} (hk : I64 k) (x : Int) (hx : I64 x) : ∃ w', (Instr.mapUpdate 39 (.map (some b)) (.int .i64 k) (.int .i64 x)).run Try.prog w = .ok () w' ∧ MapI w' b (n + 1) (fun i => if i = k then x else f i) ∧ w.grownBy w' (some b) := by
  obtain ⟨D, h1, h2⟩ := h.out
  obtain ⟨w', r, o, g⟩ := h1.update int_keys Try.underlying39 hn (keyOf_int_mk (a := k) Try.underlying3 (WalkArith.wf_i64 hk)) (plainElem_int (q := .i64) (a := x) Try.underlying3 (WalkArith.wf_i64 hx))
  refine ⟨w', r, ⟨_, o, fun i hi => ?_⟩, g⟩
  by_cases e : i = k
  · subst e
    rw [if_pos rfl]
    exact atKey_put_same h1.isMap (show WideAt.IsKeyLit (.int .i64 i) from trivial) _ _
  · rw [if_neg e, atKey_put_other (fun h => e (by injection h))]
    exact h2 i hi
theorem MapI.kept {row : Option Nat} (h : MapI w b n f) (g : w.grownBy w' row) (hne : some b ≠ row) : MapI w' b n f := by
  obtain ⟨D, h1, h2⟩ := h.out; exact ⟨D, h1.kept g hne, h2⟩
theorem MapI.below (h : MapI w b n f) (k : Below w.heap.size w w') : MapI w' b n f :=
  h.kept (row := none) ⟨k.os, k.tape, k.output, k.size, fun j hj _ => k.block j hj⟩ (by simp)
theorem MapI.drew (h : MapI w b n f) : MapI w.drew b n f := by obtain ⟨D, h1, h2⟩ := h.out; exact ⟨D, h1.drew, h2⟩
theorem MapI.setCell (h : MapI w b n f) (g i : Nat) (v : Value) (hne : b ≠ g) : MapI (w.setCell ⟨g, i, none⟩ v) b n f := by
  obtain ⟨D, h1, h2⟩ := h.out; exact ⟨D, h1.setCell (a := ⟨g, i, none⟩) hne v, h2⟩
end
/-- Block b is a map[int]bool that reads so at each key. -/
structure MapB (w : World) (b n : Nat) (f : Int → Bool) : Prop where
  out : ∃ D : DataW Unit, w.ownsMap Try.prog 3 (plainElem (H := Unit) Try.prog 4) b n D ∧ ∀ k, I64 k → D.atKey (.int .i64 k) (.lit (.bool false)) = .lit (.bool (f k))
theorem zero_B (w : World) : (zeroValue 4).run Try.prog w = .ok (.bool false) w := by kernel_rfl
section
variable {w w' : World} {b n : Nat} {f : Int → Bool}
theorem MapB.made (w : World) : MapB (w.alloc (.map #[] 0)) w.heap.size 0 (fun _ => false) := ⟨_, World.ownsMap_made w _ _ _, fun _ _ => rfl⟩
theorem MapB.lt (h : MapB w b n f) : b < w.heap.size := by obtain ⟨D, h1, _⟩ := h.out; exact h1.lt
theorem MapB.look (h : MapB w b n f) {k : Int} (hk : I64 k) : (Instr.lookup 44 (.map (some b)) (.int .i64 k) false).run Try.prog w = .ok (.bool (f k)) w := by
  obtain ⟨D, h1, h2⟩ := h.out
  obtain ⟨v, ps, hrun, hv⟩ := h1.lookup int_keys Try.underlying44 (zero_B w) (plainElem_bool Try.underlying4 false) (keyOf_int_mk (a := k) Try.underlying3 (WalkArith.wf_i64 hk))
  obtain ⟨x, rfl, hx⟩ := plainB_inv Try.underlying4 hv
  have h2 := h2 k hk
  have hx' := congrArg Prod.fst hx
  simp only at hx'
  rw [h2] at hx'
  rw [hrun]
  simp at hx'
  rw [hx']
theorem MapB.put (h : MapB w b n f) (hn : n < maxLen) {k : Int} (hk : I64 k) (x : Bool) : ∃ w', (Instr.mapUpdate 44 (.map (some b)) (.int .i64 k) (.bool x)).run Try.prog w = .ok () w' ∧ MapB w' b (n + 1) (fun i => if i = k then x else f i) ∧ w.grownBy w' (some b) := by
  obtain ⟨D, h1, h2⟩ := h.out
  obtain ⟨w', r, o, g⟩ := h1.update int_keys Try.underlying44 hn (keyOf_int_mk (a := k) Try.underlying3 (WalkArith.wf_i64 hk)) (plainElem_bool Try.underlying4 x)
  refine ⟨w', r, ⟨_, o, fun i hi => ?_⟩, g⟩
  by_cases e : i = k
  · subst e
    rw [if_pos rfl]
    exact atKey_put_same h1.isMap (show WideAt.IsKeyLit (.int .i64 i) from trivial) _ _
  · rw [if_neg e, atKey_put_other (fun h => e (by injection h))]
    exact h2 i hi
theorem MapB.kept {row : Option Nat} (h : MapB w b n f) (g : w.grownBy w' row) (hne : some b ≠ row) : MapB w' b n f := by
  obtain ⟨D, h1, h2⟩ := h.out; exact ⟨D, h1.kept g hne, h2⟩
theorem MapB.below (h : MapB w b n f) (k : Below w.heap.size w w') : MapB w' b n f :=
  h.kept (row := none) ⟨k.os, k.tape, k.output, k.size, fun j hj _ => k.block j hj⟩ (by simp)
theorem MapB.drew (h : MapB w b n f) : MapB w.drew b n f := by obtain ⟨D, h1, h2⟩ := h.out; exact ⟨D, h1.drew, h2⟩
theorem MapB.setCell (h : MapB w b n f) (g i : Nat) (v : Value) (hne : b ≠ g) : MapB (w.setCell ⟨g, i, none⟩ v) b n f := by
  obtain ⟨D, h1, h2⟩ := h.out; exact ⟨D, h1.setCell (a := ⟨g, i, none⟩) hne v, h2⟩
end
end Go.Proofs.Ythfeakfakjecoaa
