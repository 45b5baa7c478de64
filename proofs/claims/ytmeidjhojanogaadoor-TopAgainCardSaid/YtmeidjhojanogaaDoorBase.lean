/- Small laws on worlds: a block that is known whole, carried over new blocks, draws and stores. No condition. -/
import Derived.WalkKit
import Derived.WalkLawsBesides
import Derived.RegionTactic
import Derived.ChangeAlike
import Derived.Deep.QuietTactic
import Derived.BigQuiet
import Derived.Outline
import Derived.Below
import Derived.Lib.Hide
namespace Go.Proofs.YtmeidjhojanogaaDoor
open Go.RowKit

theorem ret_int {k : IntKind} {a b : Int} (h : a = b) : Ending.returned (.int k a) = .returned (.int k b) := by rw [h]
theorem ret_bool {a b : Bool} (h : a = b) : Ending.returned (.bool a) = .returned (.bool b) := by rw [h]

/-- Block b is a row of cells, not frozen. -/
structure Has (w : World) (b : Nat) (cs : Array Value) (t : TypeId) : Prop where
  out : w.heap[b]? = some (.cells cs t (0, 0))
section
variable {w w' : World} {b : Nat} {cs : Array Value} {t : TypeId}
theorem Has.lt (h : Has w b cs t) : b < w.heap.size := (Array.getElem?_eq_some_iff.1 h.out).1
theorem Has.cell (h : Has w b cs t) {i : Nat} {v : Value} (hi : cs[i]? = some v) : w.cell? ⟨b, i, none⟩ = some v := by simp [World.cell?, h.out, hi]
theorem Has.cell_add (h : Has w b cs t) {i : Nat} {v : Value} (hi : cs[i]? = some v) : w.cell? ((⟨b, 0, none⟩ : Addr).add i) = some v := by
  have hadd : (⟨b, 0, none⟩ : Addr).add i = ⟨b, 0 + i, none⟩ := by unfold Addr.add; split <;> simp_all
  rw [hadd, Nat.zero_add]; exact h.cell hi
theorem Has.free (h : Has w b cs t) (i : Nat) : w.frozen? ⟨b, i, none⟩ = false := by simp [World.frozen?, h.out]
theorem Has.alloc (h : Has w b cs t) (o : Obj) : Has (w.alloc o) b cs t := ⟨by rw [Below.heap_alloc _ _ _ h.lt]; exact h.out⟩
theorem Has.drewN (h : Has w b cs t) (n : Nat) : Has (w.drewN n) b cs t := ⟨h.out⟩
theorem Has.drew (h : Has w b cs t) : Has w.drew b cs t := ⟨h.out⟩
theorem Has.new (w : World) (cs : Array Value) (t : TypeId) : Has (w.alloc (.cells cs t)) w.heap.size cs t := ⟨by show (w.heap.push _)[w.heap.size]? = _; simp⟩
theorem Has.below {B : Nat} (h : Has w b cs t) (hb : Below B w w') (hB : b < B) : Has w' b cs t := ⟨by rw [hb.block b hB]; exact h.out⟩
theorem Has.setCell (h : Has w b cs t) (i : Nat) (v : Value) : Has (w.setCell ⟨b, i, none⟩ v) b (cs.setIfInBounds i v) t :=
  ⟨by simp only [World.setCell, Array.getElem?_modify, if_pos, h.out, Option.map_some]; rfl⟩
theorem Has.setCell_ne (h : Has w b cs t) {a : Addr} (ha : b ≠ a.block) (v : Value) : Has (w.setCell a v) b cs t := ⟨by rw [Below.heap_setCell _ _ _ _ ha]; exact h.out⟩
theorem Has.at (h : Has w b cs t) {c : Nat} (e : b = c) : Has w c cs t := e ▸ h
theorem Has.grown {row : Option Nat} (h : Has w b cs t) (g : w.grownBy w' row) (hb : some b ≠ row) : Has w' b cs t := ⟨by rw [g.block b h.lt hb]; exact h.out⟩
theorem Has.ne_ty {b' : Nat} {cs' : Array Value} {t' : TypeId} (h : Has w b cs t) (h' : Has w b' cs' t') (ht : t ≠ t') : b ≠ b' := by
  rintro rfl
  have := h.out.symm.trans h'.out
  injection this with this
  injection this with _ e
  exact ht e
theorem Has.to (h : Has w b cs t) {ds : Array Value} (e : cs = ds) : Has w b ds t := e ▸ h
theorem below_drewN {B : Nat} {a w : World} (h : Below B a w) (n : Nat) : Below B a (w.drewN n) := ⟨h.os, h.tape, h.output, h.size, h.block⟩
theorem size_drewN (w : World) (n : Nat) : (w.drewN n).heap.size = w.heap.size := rfl
end
/-- What is below reads as before: the two rules that the walk uses. -/
theorem bcell {W w1 : World} (hb : Below W.heap.size W w1) : (∀ b o, b < W.heap.size → w1.cell? ⟨b, o, none⟩ = W.cell? ⟨b, o, none⟩) ∧ (∀ b o, b < W.heap.size → w1.frozen? ⟨b, o, none⟩ = W.frozen? ⟨b, o, none⟩) :=
  ⟨fun b o h => hb.cell (p := ⟨b, o, none⟩) h, fun b o h => hb.frozen (p := ⟨b, o, none⟩) h⟩
/-- Nothing has turned but the count of draws. -/
def Quiet (w w' : World) : Prop := ∃ n, w.drewN n = w'
section
variable {w w' w'' : World} {b : Nat} {cs : Array Value} {t : TypeId}
theorem Quiet.refl (w : World) : Quiet w w := ⟨0, rfl⟩
theorem Quiet.trans (h : Quiet w w') (k : Quiet w' w'') : Quiet w w'' := by
  obtain ⟨n, rfl⟩ := h; obtain ⟨m, rfl⟩ := k; exact ⟨n + m, by simp⟩
theorem Quiet.heap (h : Quiet w w') : w'.heap = w.heap := by obtain ⟨n, rfl⟩ := h; rfl
theorem Quiet.size (h : Quiet w w') : w'.heap.size = w.heap.size := by rw [h.heap]
theorem Quiet.below (h : Quiet w w') (B : Nat) : Below B w w' := by obtain ⟨n, rfl⟩ := h; exact below_drewN (Below.refl _ _) n
theorem Has.quiet (h : Has w b cs t) (q : Quiet w w') : Has w' b cs t := by obtain ⟨n, rfl⟩ := q; exact h.drewN n
end
theorem idx6 {P : Nat → Prop} (h0 : P 0) (h1 : P 1) (h2 : P 2) (h3 : P 3) (h4 : P 4) (h5 : P 5) : ∀ j, j < 6 → P j := by
  intro j hj; rcases (by omega : j = 0 ∨ j = 1 ∨ j = 2 ∨ j = 3 ∨ j = 4 ∨ j = 5) with rfl | rfl | rfl | rfl | rfl | rfl <;> assumption

/-- A clock's cells. -/
abbrev clkC (f : Nat → Int) : Array Value := #[.int .i64 (f 0), .int .i64 (f 1), .int .i64 (f 2), .int .i64 (f 3), .int .i64 (f 4), .int .i64 (f 5)]
/-- A clock's value. -/
abbrev clkV (f : Nat → Int) : Value := .agg (clkC f)
theorem clkC_get (f : Nat → Int) (k : Nat) (hk : k < 6) : (clkC f)[k]? = some (.int .i64 (f k)) := by
  revert k; apply idx6 <;> rfl
theorem clkC_congr {f g : Nat → Int} (h : ∀ i, i < 6 → f i = g i) : clkC f = clkC g := by
  simp only [clkC, h 0 (by omega), h 1 (by omega), h 2 (by omega), h 3 (by omega), h 4 (by omega), h 5 (by omega)]
theorem clkV_congr {f g : Nat → Int} (h : ∀ i, i < 6 → f i = g i) : clkV f = clkV g := congrArg Value.agg (clkC_congr h)
theorem clkC_set (f : Nat → Int) (k : Nat) (hk : k < 6) (x : Int) : (clkC f).setIfInBounds k (.int .i64 x) = clkC fun i => if i = k then x else f i := by
  revert k; apply idx6 <;> simp [clkC]
theorem all6 {P : Nat → Prop} : (∀ i, i < 6 → P i) ↔ P 0 ∧ P 1 ∧ P 2 ∧ P 3 ∧ P 4 ∧ P 5 :=
  ⟨fun h => ⟨h 0 (by omega), h 1 (by omega), h 2 (by omega), h 3 (by omega), h 4 (by omega), h 5 (by omega)⟩, fun ⟨h0, h1, h2, h3, h4, h5⟩ => idx6 h0 h1 h2 h3 h4 h5⟩
/-- The greater numbers, the lesser ones, 'within', 'equal'. -/
def cmax (f g : Nat → Int) : Nat → Int := fun i => max (f i) (g i)
def cmin (f g : Nat → Int) : Nat → Int := fun i => min (f i) (g i)
def cle (f g : Nat → Int) : Bool := decide (f 0 ≤ g 0 ∧ f 1 ≤ g 1 ∧ f 2 ≤ g 2 ∧ f 3 ≤ g 3 ∧ f 4 ≤ g 4 ∧ f 5 ≤ g 5)
def ceq (f g : Nat → Int) : Bool := decide (f 0 = g 0 ∧ f 1 = g 1 ∧ f 2 = g 2 ∧ f 3 = g 3 ∧ f 4 = g 4 ∧ f 5 = g 5)
theorem cle_iff {f g : Nat → Int} : cle f g = true ↔ ∀ i, i < 6 → f i ≤ g i := by rw [all6]; simp [cle]
theorem ceq_iff {f g : Nat → Int} : ceq f g = true ↔ ∀ i, i < 6 → f i = g i := by rw [all6]; simp [ceq]
theorem Has.clk {w : World} {b : Nat} {f : Nat → Int} {t : TypeId} (h : Has w b (clkC f) t) :
    w.cell? ⟨b, 0, none⟩ = some (.int .i64 (f 0)) ∧ w.cell? ⟨b, 1, none⟩ = some (.int .i64 (f 1)) ∧ w.cell? ⟨b, 2, none⟩ = some (.int .i64 (f 2)) ∧
    w.cell? ⟨b, 3, none⟩ = some (.int .i64 (f 3)) ∧ w.cell? ⟨b, 4, none⟩ = some (.int .i64 (f 4)) ∧ w.cell? ⟨b, 5, none⟩ = some (.int .i64 (f 5)) :=
  ⟨h.cell rfl, h.cell rfl, h.cell rfl, h.cell rfl, h.cell rfl, h.cell rfl⟩
theorem Has.clkFree {w : World} {b : Nat} {f : Nat → Int} {t : TypeId} (h : Has w b (clkC f) t) :
    w.frozen? ⟨b, 0, none⟩ = false ∧ w.frozen? ⟨b, 1, none⟩ = false ∧ w.frozen? ⟨b, 2, none⟩ = false ∧
    w.frozen? ⟨b, 3, none⟩ = false ∧ w.frozen? ⟨b, 4, none⟩ = false ∧ w.frozen? ⟨b, 5, none⟩ = false :=
  ⟨h.free _, h.free _, h.free _, h.free _, h.free _, h.free _⟩
/-- The world at a function's end under one name, with what is known of the result's block. -/
theorem end_has {P : Program} {fn : Func} {R : Ending → World → Prop} {e : Exit} {a : Act} {W : World} {B b : Nat} {w : World} {cs : Array Value} {t : TypeId}
    (hf : Has W b cs t) (hb : Below B w W) (h : ∀ W, Has W b cs t → Below B w W → bodyPost P fn R e a W) : bodyPost P fn R e a W := h W hf hb
end Go.Proofs.YtmeidjhojanogaaDoor
