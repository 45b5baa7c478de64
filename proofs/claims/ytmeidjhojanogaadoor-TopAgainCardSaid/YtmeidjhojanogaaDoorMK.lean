/- Joined texts. -/
import Derived.Test.YtmeidjhojanogaaDoorChecked
import Derived.Test.YtmeidjhojanogaaDoorMB
import Derived.Test.YtmeidjhojanogaaDoorMD
import Derived.Deep.OwnRows
import Derived.IntWalk

/- Contracts of package order: directly. -/
namespace Go.Proofs.YtmeidjhojanogaaDoor
open Go.RowKit

set_option maxHeartbeats 8000000 in
theorem directly_any (a b : Ev) (w : World) : Calls Tryd.prog 67 #[evV a, evV b] w fun r w' => r = .returned (.bool (dirE a b)) ∧ Below w.heap.size w w' := by
  obtain ⟨k, t, o⟩ := a
  obtain ⟨k', t', o'⟩ := b
  go_enter Tryd.func67, Tryd.ntmps67
  go_wp2
  all_goals
    go_ret
    refine ⟨ret_bool ?_, ((Below.refl _ _).alloc (by simp) _).alloc (by simp) _⟩
    rw [Bool.eq_iff_iff, dirE_iff]
    simp
    simp only [beq_iff_eq, beq_eq_false_iff_ne, ne_eq] at *
    omega
end Go.Proofs.YtmeidjhojanogaaDoor

/- Rows of bits in memory. -/
namespace Go.Proofs.YtmeidjhojanogaaDoor
open Go.RowKit

/-- A row of bits; the row of rows, of which the first 'cnt' are made. -/
def bRow (n : Nat) (f : Nat → Bool) : Array Value := ((List.range n).map fun k => Value.bool (f k)).toArray
def rRow (n cnt : Nat) (B : Nat → Nat) : Array Value := ((List.range n).map fun r => if r < cnt then Value.slice (some ⟨B r, 0, none⟩) n n else Value.slice none 0 0).toArray
theorem bRow_get (n : Nat) (f : Nat → Bool) {k : Nat} (hk : k < n) : (bRow n f)[k]? = some (.bool (f k)) := by simp [bRow, hk]
theorem rRow_get (n cnt : Nat) (B : Nat → Nat) {r : Nat} (hr : r < n) (hc : r < cnt) : (rRow n cnt B)[r]? = some (.slice (some ⟨B r, 0, none⟩) n n) := by simp [rRow, hr, hc]
theorem rRow_get0 (n cnt : Nat) (B : Nat → Nat) {r : Nat} (hr : r < n) (hc : ¬ r < cnt) : (rRow n cnt B)[r]? = some (.slice none 0 0) := by simp [rRow, hr, hc]
def updM (M : Nat → Nat → Bool) (r k : Nat) (x : Bool) : Nat → Nat → Bool := fun a b => if a = r ∧ b = k then x else M a b
theorem bRow_set (n : Nat) (f : Nat → Bool) (k : Nat) (x : Bool) : (bRow n f).setIfInBounds k (.bool x) = bRow n fun i => if i = k then x else f i := by
  apply Array.ext_getElem?
  intro i
  by_cases hi : i < n
  · rw [bRow_get n _ hi, Array.getElem?_setIfInBounds]
    by_cases hk : k = i
    · subst hk
      have hs : k < (bRow n f).size := by simp [bRow, hi]
      simp [hs]
    · have : ¬ i = k := fun e => hk e.symm
      simp [hk, this, bRow_get n f hi]
  · have h1 : (bRow n fun i => if i = k then x else f i)[i]? = none := by simp [bRow]; omega
    rw [h1]
    simp [bRow]; omega
theorem rRow_set (n cnt : Nat) (B : Nat → Nat) (N : Nat) (_hc : cnt < n) : (rRow n cnt B).setIfInBounds cnt (.slice (some ⟨N, 0, none⟩) n n) = rRow n (cnt + 1) fun r => if r = cnt then N else B r := by
  apply Array.ext_getElem?
  intro i
  by_cases hi : i < n
  · rw [Array.getElem?_setIfInBounds]
    by_cases hk : cnt = i
    · subst hk
      have hs : cnt < (rRow n cnt B).size := by simp [rRow, hi]
      rw [rRow_get n (cnt + 1) _ hi (by omega)]
      simp [hs]
    · have hne : ¬ i = cnt := fun e => hk e.symm
      by_cases hlt : i < cnt
      · rw [rRow_get n (cnt + 1) _ hi (by omega)]
        simp [hk, hne, rRow_get n cnt B hi hlt]
      · rw [rRow_get0 n (cnt + 1) _ hi (by omega)]
        simp [hk, rRow_get0 n cnt B hi hlt]
  · have h1 : (rRow n (cnt + 1) fun r => if r = cnt then N else B r)[i]? = none := by simp [rRow]; omega
    rw [h1]
    simp [rRow]; omega
theorem made_bRow (n : Nat) : madeCells #[Value.bool false] n = bRow n fun _ => false := by
  apply Array.ext'
  rw [toList_madeCells_one]
  apply List.ext_getElem?
  intro i
  by_cases hi : i < n <;> simp [bRow, hi]
theorem made_rRow (n : Nat) (B : Nat → Nat) : madeCells #[Value.slice none 0 0] n = rRow n 0 B := by
  apply Array.ext'
  rw [toList_madeCells_one]
  apply List.ext_getElem?
  intro i
  by_cases hi : i < n <;> simp [rRow, hi]

/-- The rows of 'ahead' in memory: n rows of which j are made. -/
structure AhS (w0 wr : World) (n j : Nat) (B : Nat → Nat) (M : Nat → Nat → Bool) : Prop where
  top : Has wr w0.heap.size (rRow n j B) 105
  rows : ∀ r, r < j → Has wr (B r) (bRow n (M r)) 4
  far : ∀ r, r < j → w0.heap.size < B r
  sep : ∀ r r', r < j → r' < j → r ≠ r' → B r ≠ B r'
  below : Below w0.heap.size w0 wr
section
variable {w0 wr w' : World} {n j : Nat} {B : Nat → Nat} {M M' : Nat → Nat → Bool}
theorem AhS.next (h : AhS w0 wr n j B M) (k : Below wr.heap.size wr w') : AhS w0 w' n j B M :=
  ⟨h.top.below k h.top.lt, fun r hr => (h.rows r hr).below k (h.rows r hr).lt, h.far, h.sep, h.below.trans (k.mono h.below.size)⟩
theorem AhS.congr (h : AhS w0 wr n j B M) (e : ∀ r k, r < j → k < n → M r k = M' r k) : AhS w0 wr n j B M' :=
  ⟨h.top, fun r hr => (h.rows r hr).to (by
    unfold bRow
    congr 1
    exact List.map_congr_left fun k hk => by rw [e r k hr (by simpa using hk)]), h.far, h.sep, h.below⟩
theorem AhS.set (h : AhS w0 wr n j B M) {r : Nat} (hr : r < j) (k : Nat) (x : Bool) : AhS w0 (wr.setCell ⟨B r, k, none⟩ (.bool x)) n j B (updM M r k x) := by
  refine ⟨h.top.setCell_ne (by have := h.far r hr; simp; omega) _, fun a ha => ?_, h.far, h.sep, h.below.setCell (by have := h.far r hr; simp; omega) _⟩
  by_cases e : a = r
  · subst e
    refine ((h.rows a ha).setCell k (.bool x)).to ((bRow_set n _ k x).trans ?_)
    congr 1
    funext i
    simp [updM]
  · refine ((h.rows a ha).setCell_ne (a := ⟨B r, k, none⟩) (h.sep a r ha hr e) _).to ?_
    congr 1
    funext i
    simp [updM, e]
theorem AhS.push (h : AhS w0 wr n j B M) (hj : j < n) : AhS w0 ((wr.alloc (.cells (bRow n fun _ => false) 4)).setCell ⟨w0.heap.size, j, none⟩ (.slice (some ⟨wr.heap.size, 0, none⟩) n n)) n (j + 1) (fun r => if r = j then wr.heap.size else B r) (fun r k => if r = j then false else M r k) := by
  have hsz := h.below.size
  have hlt := h.top.lt
  refine ⟨((h.top.alloc _).setCell j _).to (rRow_set n j B _ hj), fun r hr => ?_, fun r hr => ?_, fun r r' hr hr' hne => ?_, (h.below.alloc hsz _).setCell (Nat.le_refl _) _⟩
  · by_cases e : r = j
    · subst e
      simp only [if_true]
      exact (Has.new wr _ _).setCell_ne (by simp; omega) _
    · simp only [if_neg e]
      exact ((h.rows r (by omega)).alloc _).setCell_ne (by have := h.far r (by omega); simp; omega) _
  · by_cases e : r = j
    · simp only [if_pos e]; exact hlt
    · simp only [if_neg e]; exact h.far r (by omega)
  · by_cases e : r = j
    · have e' : ¬ r' = j := fun x => hne (e.trans x.symm)
      simp only [if_pos e, if_neg e']
      have := (h.rows r' (by omega)).lt
      omega
    · by_cases e' : r' = j
      · simp only [if_neg e, if_pos e']
        have := (h.rows r (by omega)).lt
        omega
      · simp only [if_neg e, if_neg e']
        exact h.sep r r' (by omega) (by omega) hne
end
end Go.Proofs.YtmeidjhojanogaaDoor
