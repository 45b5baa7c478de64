/- The fast detector's run: the cells are made. -/
import Derived.Test.YtfjbnhacfficnaaGreatDoorZI
import Derived.Test.YtfjbnhacfficnaaGreatDoorZH
namespace Go.Proofs.YtfjbnhacfficnaaGreatDoor
open Go.RowKit

/-- Eight values. -/
abbrev pA (f : Nat → Value) : Array Value := #[f 0, f 1, f 2, f 3, f 4, f 5, f 6, f 7]
theorem pA_get (f : Nat → Value) {k : Nat} (hk : k < 8) : (pA f)[k]? = some (f k) := by
  rcases (by omega : k = 0 ∨ k = 1 ∨ k = 2 ∨ k = 3 ∨ k = 4 ∨ k = 5 ∨ k = 6 ∨ k = 7) with rfl | rfl | rfl | rfl | rfl | rfl | rfl | rfl <;> rfl
theorem pA_set (f : Nat → Value) {k : Nat} (hk : k < 8) (v : Value) : (pA f).setIfInBounds k v = pA fun i => if i = k then v else f i := by
  rcases (by omega : k = 0 ∨ k = 1 ∨ k = 2 ∨ k = 3 ∨ k = 4 ∨ k = 5 ∨ k = 6 ∨ k = 7) with rfl | rfl | rfl | rfl | rfl | rfl | rfl | rfl <;> simp [pA]
theorem pA_congr {f g : Nat → Value} (h : ∀ i, i < 8 → f i = g i) : pA f = pA g := by
  simp only [pA, h 0 (by omega), h 1 (by omega), h 2 (by omega), h 3 (by omega), h 4 (by omega), h 5 (by omega), h 6 (by omega), h 7 (by omega)]
/-- The first k of eight pointers. -/
def ptK (P : Nat → Nat) (k : Nat) : Nat → Value := fun x => if x < k then .pointer (some ⟨P x, 0, none⟩) else .pointer none
/-- The cells' blocks, the first k of them made. -/
structure Cells (w : World) (A : Nat) (P : Nat → Nat) (k : Nat) (F : Nat → Fc) : Prop where
  arr : Has w A (pA (ptK P k)) 174
  cell : ∀ x, x < k → Has w (P x) (fcC (F x)) 181
  above : ∀ x, x < k → A < P x
  ne : ∀ x y, x < k → y < k → P x = P y → x = y
theorem Cells.more {w w' w'' : World} {A : Nat} {P : Nat → Nat} {k : Nat} {F : Nat → Fc} (h : Cells w A P k F) (hk : k < 8) (hb : Below w.heap.size w w') (hn : Has w' w.heap.size (fcC (F k)) 181)
    (hw : w'' = w'.setCell ⟨A, k, none⟩ (.pointer (some ⟨w.heap.size, 0, none⟩))) : Cells w'' A (fun x => if x = k then w.heap.size else P x) (k + 1) F := by
  subst hw
  have hA := h.arr.lt
  refine ⟨?_, ?_, ?_, ?_⟩
  · refine ((h.arr.below hb hA).setCell k (.pointer (some ⟨w.heap.size, 0, none⟩))).to ?_
    rw [pA_set _ hk]
    refine pA_congr fun i _ => ?_
    simp only [ptK]
    by_cases e : i = k
    · subst e; simp
    · by_cases e2 : i < k
      · rw [if_neg e, if_pos e2, if_pos (by omega), if_neg e]
      · rw [if_neg e, if_neg e2, if_neg (by omega)]
  · intro x hx
    by_cases e : x = k
    · subst e
      simp only [if_true]
      exact hn.setCell_ne (by simp only; omega) _
    · simp only [if_neg e]
      have h2 := h.cell x (by omega)
      exact (h2.below hb h2.lt).setCell_ne (by have := h.above x (by omega); simp only; omega) _
  · intro x hx
    by_cases e : x = k
    · simp only [if_pos e]; exact hA
    · simp only [if_neg e]; exact h.above x (by omega)
  · intro x y hx hy hxy
    by_cases e : x = k <;> by_cases e2 : y = k
    · omega
    · simp only [if_pos e, if_neg e2] at hxy
      have := (h.cell y (by omega)).lt
      omega
    · simp only [if_neg e, if_pos e2] at hxy
      have := (h.cell x (by omega)).lt
      omega
    · simp only [if_neg e, if_neg e2] at hxy
      exact h.ne x y (by omega) (by omega) hxy
/-- One cell's block is written to. -/
theorem Cells.put {w w' : World} {A : Nat} {P : Nat → Nat} {F : Nat → Fc} (h : Cells w A P 8 F) {o : Nat} (ho : o < 8) {x : Fc} (ht : CTook w w' (P o) x) : Cells w' A P 8 (fun y => if y = o then x else F y) := by
  refine ⟨h.arr.grown ht.grown (by have := h.above o ho; intro e; cases e; omega), ?_, h.above, h.ne⟩
  intro y hy
  by_cases e : y = o
  · simp only [if_pos e]; rw [e]; exact ht.has
  · simp only [if_neg e]
    exact (h.cell y hy).grown ht.grown (fun e2 => by injection e2 with e3; exact e (h.ne y o hy ho e3))
theorem Cells.below {w w' : World} {A : Nat} {P : Nat → Nat} {k : Nat} {F : Nat → Fc} (h : Cells w A P k F) (hb : Below w.heap.size w w') : Cells w' A P k F :=
  ⟨h.arr.below hb h.arr.lt, fun x hx => (h.cell x hx).below hb (h.cell x hx).lt, h.above, h.ne⟩
theorem Cells.grown {w w' : World} {A : Nat} {P : Nat → Nat} {k : Nat} {F : Nat → Fc} {row : Option Nat} (h : Cells w A P k F) (hg : w.grownBy w' row) (h1 : row ≠ some A) (h2 : ∀ x, x < k → row ≠ some (P x)) : Cells w' A P k F :=
  ⟨h.arr.grown hg (Ne.symm h1), fun x hx => (h.cell x hx).grown hg (Ne.symm (h2 x hx)), h.above, h.ne⟩
theorem Cells.drew {w : World} {A : Nat} {P : Nat → Nat} {k : Nat} {F : Nat → Fc} (h : Cells w A P k F) : Cells w.drew A P k F := ⟨h.arr.drew, fun x hx => (h.cell x hx).drew, h.above, h.ne⟩
theorem Cells.alloc {w : World} {A : Nat} {P : Nat → Nat} {k : Nat} {F : Nat → Fc} (h : Cells w A P k F) (o : Obj) : Cells (w.alloc o) A P k F := ⟨h.arr.alloc o, fun x hx => (h.cell x hx).alloc o, h.above, h.ne⟩
theorem Cells.to {w : World} {A : Nat} {P : Nat → Nat} {k : Nat} {F G : Nat → Fc} (h : Cells w A P k F) (e : ∀ x, x < k → F x = G x) : Cells w A P k G := ⟨h.arr, fun x hx => by rw [← e x hx]; exact h.cell x hx, h.above, h.ne⟩
theorem cellAt_ok {l : List Ev} (hE : ∀ e ∈ l, isEv e = true) (x : Nat) : ∀ m : Nat, m ≤ l.length → FcOk (cellAt l x m) m
  | 0, _ => ⟨by simp [cellAt, Fc.first], by simp [cellAt, Fc.first], by simp [cellAt, Fc.first]⟩
  | m + 1, hm => by
    have ih := cellAt_ok hE x m (by omega)
    have he := isEv_iff.1 (hE _ (List.getElem_mem (show m < l.length by omega)))
    rw [← evAt_lt (show m < l.length by omega)] at he
    have ht : (evAt l m).t.toNat < 6 := by omega
    obtain ⟨i1, i2, i3⟩ := ih
    have hc : ((m + 1 : Nat) : Int) = m + 1 := by omega
    simp only [cellAt]
    rw [hc]
    split
    · unfold Fc.acc Fc.read Fc.write
      (repeat' split) <;> exact ⟨by first | exact i1 | exact ht, by first | exact i2 | exact ht | exact (show 0 < 6 by decide), by simp only; omega⟩
    · exact ⟨i1, i2, by omega⟩
theorem zero_ptrs (w : World) : (zeroValue 174).run Tryz.prog w = .ok (.agg (pA (ptK (fun _ => 0) 0))) w := by kernel_rfl
end Go.Proofs.YtfjbnhacfficnaaGreatDoor
