/- Arrays of eight and of four ints: their cells, their equality. -/
import Derived.Test.YthfeakfakjecoaaPgH
namespace Go.Proofs.Ythfeakfakjecoaa
open Go.RowKit

/-- 8 ints. -/
abbrev ar8 (f : Nat → Int) : Array Value := #[.int .i64 (f 0), .int .i64 (f 1), .int .i64 (f 2), .int .i64 (f 3), .int .i64 (f 4), .int .i64 (f 5), .int .i64 (f 6), .int .i64 (f 7)]
theorem ar8_row (f : Nat → Int) : (ar8 f).toList = (List.range 8).map fun i => Value.int .i64 (f i) := rfl
theorem ar8_get (f : Nat → Int) {i : Nat} (h : i < 8) : (ar8 f)[i]? = some (.int .i64 (f i)) := by
  rw [← Array.getElem?_toList, ar8_row]; simp [h]
theorem ar8_set (f : Nat → Int) {k : Nat} (h : k < 8) (x : Int) : (ar8 f).setIfInBounds k (.int .i64 x) = ar8 fun i => if i = k then x else f i := by
  apply Array.ext_getElem?
  intro j
  rw [Array.getElem?_setIfInBounds]
  by_cases e : k = j
  · subst e
    rw [if_pos rfl, if_pos (by simpa using h), ar8_get _ h, if_pos rfl]
  · rw [if_neg e]
    by_cases hj : j < 8
    · rw [ar8_get _ hj, ar8_get _ hj, if_neg (fun h => e h.symm)]
    · rw [Array.getElem?_eq_none (by simp; omega), Array.getElem?_eq_none (by simp; omega)]
theorem ar8_congr {f g : Nat → Int} (h : ∀ i, i < 8 → f i = g i) : ar8 f = ar8 g := by
  apply Array.ext_getElem?
  intro j
  by_cases hj : j < 8
  · rw [ar8_get _ hj, ar8_get _ hj, h j hj]
  · rw [Array.getElem?_eq_none (by simp; omega), Array.getElem?_eq_none (by simp; omega)]
set_option maxRecDepth 100000 in
theorem ar8_deep : EqAt Try.prog 10000 26 := run_equalIn_deep 9998 2 26 (by kernel_rfl)
theorem eql_ar8 {f : Nat → Int} (hf : ∀ i, i < 8 → I64 (f i)) (w : World) : (binOp .eql 26 (.agg (ar8 f)) (.agg (ar8 f))).run Try.prog w = .ok (.bool true) w := by
  have hl : Try.prog.keyLits 2 26 (ar8 f).toList = some ((List.range 8).map fun i => Lit.int .i64 (f i)) := by
    rw [ar8_row]
    exact lits_row Try.underlying26 (by kernel_rfl) (by kernel_rfl) (fun i hi => lit_int Try.underlying3 (hf i hi))
  have hF : (Value.agg (ar8 f)).formed Try.prog 26 = true := by simp only [Value.formed, Try.underlying26]; kernel_rfl
  obtain ⟨r, hr, hiff⟩ := ar8_deep w 2 2 (.agg (ar8 f)) (.agg (ar8 f)) _ _ hF hF hl hl
  rw [run_eql_struct]
  generalize hD : (10000 : Nat) = D at *
  rw [hr]
  have := hiff.2 rfl
  subst this
  rfl
/-- 4 ints. -/
abbrev ar4 (f : Nat → Int) : Array Value := #[.int .i64 (f 0), .int .i64 (f 1), .int .i64 (f 2), .int .i64 (f 3)]
theorem ar4_row (f : Nat → Int) : (ar4 f).toList = (List.range 4).map fun i => Value.int .i64 (f i) := rfl
theorem ar4_get (f : Nat → Int) {i : Nat} (h : i < 4) : (ar4 f)[i]? = some (.int .i64 (f i)) := by
  rw [← Array.getElem?_toList, ar4_row]; simp [h]
theorem ar4_set (f : Nat → Int) {k : Nat} (h : k < 4) (x : Int) : (ar4 f).setIfInBounds k (.int .i64 x) = ar4 fun i => if i = k then x else f i := by
  apply Array.ext_getElem?
  intro j
  rw [Array.getElem?_setIfInBounds]
  by_cases e : k = j
  · subst e
    rw [if_pos rfl, if_pos (by simpa using h), ar4_get _ h, if_pos rfl]
  · rw [if_neg e]
    by_cases hj : j < 4
    · rw [ar4_get _ hj, ar4_get _ hj, if_neg (fun h => e h.symm)]
    · rw [Array.getElem?_eq_none (by simp; omega), Array.getElem?_eq_none (by simp; omega)]
theorem ar4_congr {f g : Nat → Int} (h : ∀ i, i < 4 → f i = g i) : ar4 f = ar4 g := by
  apply Array.ext_getElem?
  intro j
  by_cases hj : j < 4
  · rw [ar4_get _ hj, ar4_get _ hj, h j hj]
  · rw [Array.getElem?_eq_none (by simp; omega), Array.getElem?_eq_none (by simp; omega)]
set_option maxRecDepth 100000 in
theorem ar4_deep : EqAt Try.prog 10000 27 := run_equalIn_deep 9998 2 27 (by kernel_rfl)
theorem eql_ar4 {f : Nat → Int} (hf : ∀ i, i < 4 → I64 (f i)) (w : World) : (binOp .eql 27 (.agg (ar4 f)) (.agg (ar4 f))).run Try.prog w = .ok (.bool true) w := by
  have hl : Try.prog.keyLits 2 27 (ar4 f).toList = some ((List.range 4).map fun i => Lit.int .i64 (f i)) := by
    rw [ar4_row]
    exact lits_row Try.underlying27 (by kernel_rfl) (by kernel_rfl) (fun i hi => lit_int Try.underlying3 (hf i hi))
  have hF : (Value.agg (ar4 f)).formed Try.prog 27 = true := by simp only [Value.formed, Try.underlying27]; kernel_rfl
  obtain ⟨r, hr, hiff⟩ := ar4_deep w 2 2 (.agg (ar4 f)) (.agg (ar4 f)) _ _ hF hF hl hl
  rw [run_eql_struct]
  generalize hD : (10000 : Nat) = D at *
  rw [hr]
  have := hiff.2 rfl
  subst this
  rfl
end Go.Proofs.Ythfeakfakjecoaa
