/- Blocks of ints, known by a function; ranges of six of them. No program. -/
import Derived.Test.YthfeakfakjecoaaBase
import Derived.Deep.MidRow
namespace Go.Proofs.Ythfeakfakjecoaa
open Go.RowKit

/-- A row of n ints. -/
def rowI (n : Nat) (f : Nat → Int) : Array Value := ((List.range n).map fun i => Value.int .i64 (f i)).toArray
theorem rowI_get (n : Nat) (f : Nat → Int) {k : Nat} (hk : k < n) : (rowI n f)[k]? = some (.int .i64 (f k)) := by simp [rowI, hk]
theorem rowI_size (n : Nat) (f : Nat → Int) : (rowI n f).size = n := by simp [rowI]
theorem rowI_congr {n : Nat} {f g : Nat → Int} (h : ∀ i, i < n → f i = g i) : rowI n f = rowI n g := by
  unfold rowI
  congr 1
  exact List.map_congr_left fun i hi => by rw [h i (List.mem_range.1 hi)]
theorem rowI_set (n : Nat) (f : Nat → Int) (k : Nat) (x : Int) : (rowI n f).setIfInBounds k (.int .i64 x) = rowI n fun i => if i = k then x else f i := by
  apply Array.ext_getElem?
  intro i
  rw [Array.getElem?_setIfInBounds]
  by_cases hk : k = i
  · subst hk
    by_cases hn : k < n
    · simp [rowI, hn]
    · simp [rowI, hn]
  · have hne : ¬ i = k := fun e => hk e.symm
    by_cases hn : i < n
    · rw [rowI_get n _ hn, rowI_get n _ hn]; simp [hk, hne]
    · simp [rowI, hk, List.getElem?_eq_none (show (List.range n).length ≤ i by simp; omega)]
theorem Has.addI {w : World} {b : Nat} {n : Nat} {f : Nat → Int} {t : TypeId} (h : Has w b (rowI n f) t) {k : Nat} (hk : k < n) : w.cell? ⟨b, k, none⟩ = some (.int .i64 (f k)) := h.cell (rowI_get n f hk)
/-- Six of the row. -/
theorem Has.six {w : World} {b : Nat} {n : Nat} {f : Nat → Int} {t : TypeId} (h : Has w b (rowI n f) t) {o : Nat} (ho : o + 6 ≤ n) (g : Nat → Int) (hg : ∀ i, i < 6 → g i = f (o + i)) : w.rangeAt b o (clkC g).toList := by
  intro j v hv
  have hj : j < 6 := by have := (List.getElem?_eq_some_iff.1 hv).1; simpa [clkC] using this
  rw [Array.getElem?_toList, clkC_get g j hj] at hv
  rw [← hv, hg j hj]
  exact h.addI (by omega)
theorem Has.there6 {w : World} {b : Nat} {n : Nat} {f : Nat → Int} {t : TypeId} (h : Has w b (rowI n f) t) {o m : Nat} (ho : o + m ≤ n) : w.there b o m := by
  intro j hj
  refine ⟨by rw [h.addI (show o + j < n by omega)]; rfl, h.free _⟩
theorem Has.setSix {w : World} {b : Nat} {n : Nat} {f : Nat → Int} {t : TypeId} (h : Has w b (rowI n f) t) (o : Nat) (g F : Nat → Int) (hF : ∀ i, i < n → F i = if o ≤ i ∧ i < o + 6 then g (i - o) else f i) : Has (w.setCells b o (clkC g).toList) b (rowI n F) t := by
  have h6 := ((((((h.setCell o (.int .i64 (g 0))).setCell (o + 1) (.int .i64 (g 1))).setCell (o + 1 + 1) (.int .i64 (g 2))).setCell (o + 1 + 1 + 1) (.int .i64 (g 3))).setCell (o + 1 + 1 + 1 + 1) (.int .i64 (g 4))).setCell (o + 1 + 1 + 1 + 1 + 1) (.int .i64 (g 5)))
  simp only [rowI_set] at h6
  refine Has.to h6 (rowI_congr fun i hi => ?_)
  rw [hF i hi]
  by_cases e : o ≤ i ∧ i < o + 6
  · rw [if_pos e]
    rcases (by omega : i = o ∨ i = o + 1 ∨ i = o + 2 ∨ i = o + 3 ∨ i = o + 4 ∨ i = o + 5) with rfl | rfl | rfl | rfl | rfl | rfl
    all_goals
      simp only [Nat.add_assoc, Nat.reduceAdd, Nat.add_sub_cancel_left, Nat.sub_self, Nat.add_left_cancel_iff, if_true, if_false, Nat.reduceEqDiff]
      try (first | rfl | (repeat (first | rw [if_neg (by omega)] | rw [if_pos (by omega)])))
  · rw [if_neg e]
    have e0 : ¬ i = o := by omega
    have e1 : ¬ i = o + 1 := by omega
    have e2 : ¬ i = o + 1 + 1 := by omega
    have e3 : ¬ i = o + 1 + 1 + 1 := by omega
    have e4 : ¬ i = o + 1 + 1 + 1 + 1 := by omega
    have e5 : ¬ i = o + 1 + 1 + 1 + 1 + 1 := by omega
    simp only [e0, e1, e2, e3, e4, e5, if_false]
theorem Has.setCells_ne {w : World} {b b' : Nat} {t : TypeId} {cs : Array Value} (h : Has w b cs t) (hb : b ≠ b') : ∀ (vs : List Value) (o : Nat), Has (w.setCells b' o vs) b cs t := by
  intro vs
  induction vs generalizing w with
  | nil => intro o; exact h
  | cons v vs ih => intro o; exact ih (h.setCell_ne (by exact hb) v) (o + 1)
theorem setCells_size (b : Nat) : ∀ (vs : List Value) (o : Nat) (w : World), (w.setCells b o vs).heap.size = w.heap.size
  | [], _, _ => rfl
  | v :: r, o, w => by rw [World.setCells, setCells_size b r]; simp [World.setCell]
theorem grownBy_setCells {w w' : World} {b : Nat} (h : w.grownBy w' (some b)) : ∀ (vs : List Value) (o : Nat), w.grownBy (w'.setCells b o vs) (some b) := by
  intro vs
  induction vs generalizing w' with
  | nil => intro o; exact h
  | cons v vs ih =>
    intro o
    have hs : w.grownBy (w'.setCell ⟨b, o, none⟩ v) (some b) := ⟨h.os, h.tape, h.output, by simpa [World.setCell] using h.size, fun k hk hne => (Below.heap_setCell w' ⟨b, o, none⟩ v k (by intro e; exact hne (by rw [e]))).trans (h.block k hk hne)⟩
    exact ih hs (o + 1)
theorem Below.setCells' {B : Nat} {w w' : World} {b : Nat} (h : Below B w w') (hb : B ≤ b) : ∀ (vs : List Value) (o : Nat), Below B w (w'.setCells b o vs) := by
  intro vs
  induction vs generalizing w' with
  | nil => intro o; exact h
  | cons v vs ih => intro o; exact ih (h.setCell (by exact hb) v) (o + 1)
theorem _root_.Go.World.grownBy.trans_below {w w1 w2 : World} {row : Option Nat} (h : w.grownBy w1 row) (k : Below w1.heap.size w1 w2) : w.grownBy w2 row :=
  ⟨k.os.trans h.os, k.tape.trans h.tape, k.output.trans h.output, Nat.le_trans h.size k.size, fun i hi hne => (k.block i (Nat.lt_of_lt_of_le hi h.size)).trans (h.block i hi hne)⟩
theorem clkC_one (g : Nat → Int) : (clkC g).all (·.oneCell') = true := by simp [clkC, Value.oneCell']
end Go.Proofs.Ythfeakfakjecoaa
