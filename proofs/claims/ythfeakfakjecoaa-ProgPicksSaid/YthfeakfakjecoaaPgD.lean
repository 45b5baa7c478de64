/- Contract of Step: what it tells (a closure); what it leaves. -/
import Derived.Test.YthfeakfakjecoaaPgS
import Derived.StillTailTactics
import Derived.IntWalk
namespace Go.Proofs.Ythfeakfakjecoaa
open Go.RowKit

set_option maxRecDepth 100000 in
set_option maxHeartbeats 8000000 in
theorem tells_any (k : Int) (n : Nat) (B1 B2 g q : Nat) (x : Ev) (w : World) (h1 : w.cell? ⟨B1, 0, none⟩ = some (.int .i64 n)) (h2 : w.cell? ⟨B2, 0, none⟩ = some (.pointer (some ⟨g, q, none⟩))) (hC : OpC w g q x) :
    Calls Try.prog 57 #[.int .i64 k, .pointer (some ⟨B1, 0, none⟩), .pointer (some ⟨B2, 0, none⟩)] w fun r w' => r = .returned (.tuple #[evV ⟨k, n, x.t⟩, .bool true]) ∧ Below w.heap.size w w' := by
  have hb := (Below.refl w.heap.size w).alloc (Nat.le_refl _) (.cells (evC ⟨0, 0, 0⟩) 37)
  have a1 : (w.alloc (.cells (evC ⟨0, 0, 0⟩) 37)).cell? ⟨B1, 0, none⟩ = some (.int .i64 n) := (hb.cell (World.block_lt_of_cell? w _ h1)).trans h1
  have a2 : (w.alloc (.cells (evC ⟨0, 0, 0⟩) 37)).cell? ⟨B2, 0, none⟩ = some (.pointer (some ⟨g, q, none⟩)) := (hb.cell (World.block_lt_of_cell? w _ h2)).trans h2
  obtain ⟨_, a3, _⟩ := hC.below hb
  have hN := Has.new w (evC ⟨0, 0, 0⟩) 37
  clear h1 h2 hC
  go_enter Try.func57, Try.ntmps57
  go_upto_region 1 with fail
  generalize w.alloc (.cells (evC ⟨0, 0, 0⟩) 37) = w1 at *
  obtain ⟨c0, c1, c2⟩ : w1.cell? ⟨w.heap.size, 0, none⟩ = some (.int .i64 0) ∧ w1.cell? ⟨w.heap.size, 1, none⟩ = some (.int .i64 0) ∧ w1.cell? ⟨w.heap.size, 2, none⟩ = some (.int .i64 0) := ⟨hN.cell rfl, hN.cell rfl, hN.cell rfl⟩
  obtain ⟨f0, f1, f2⟩ : w1.frozen? ⟨w.heap.size, 0, none⟩ = false ∧ w1.frozen? ⟨w.heap.size, 1, none⟩ = false ∧ w1.frozen? ⟨w.heap.size, 2, none⟩ = false := ⟨hN.free _, hN.free _, hN.free _⟩
  clear hN
  go_still_tail 7, (by kernel_rfl)
  change wpList _ _ _ _ _ w1.drew
  go_wp2
  refine bodyPost_ret (v := .tuple #[evV ⟨k, n, x.t⟩, .bool true]) (by simp [results, Try.results57, go_sem, *]) rfl ?_
  exact ⟨rfl, (((hb.setCell (p := ⟨w.heap.size, 0, none⟩) (Nat.le_refl _) _).setCell (p := ⟨w.heap.size, 1, none⟩) (Nat.le_refl _) _).setCell (p := ⟨w.heap.size, 2, none⟩) (Nat.le_refl _) _).drew⟩

/-- What Step leaves. -/
def StepP (w : World) (b : Nat) (T : TypeId) (R : List Value) (q : PS × Option Ev) (r : Ending) (w' : World) : Prop :=
  r = .returned (.tuple #[evV (q.2.getD ⟨0, 0, 0⟩), .bool q.2.isSome]) ∧ Has w' b (psR q.1 R) T ∧ w.grownBy w' (some b)
/-- In the midst of Step. -/
structure Mid (w W : World) (b H B2 g q n : Nat) (x : Ev) (s : PS) (R : List Value) (T : TypeId) : Prop where
  st : Has W b (psR s R) T
  box : W.cell? ⟨H, 0, none⟩ = some (.int .i64 n)
  res : Has W (H + 1) (evC ⟨0, 0, 0⟩) 37
  ptr : W.cell? ⟨B2, 0, none⟩ = some (.pointer (some ⟨g, q, none⟩))
  op : OpC W g q x
  grown : w.grownBy W (some b)
theorem Mid.below {w W W' : World} {b H B2 g q n : Nat} {x : Ev} {s : PS} {R : List Value} {T : TypeId} (h : Mid w W b H B2 g q n x s R T) (k : Below W.heap.size W W') : Mid w W' b H B2 g q n x s R T :=
  ⟨h.st.below k h.st.lt, (k.cell (World.block_lt_of_cell? W _ h.box)).trans h.box, h.res.below k h.res.lt, (k.cell (World.block_lt_of_cell? W _ h.ptr)).trans h.ptr, h.op.below k, h.grown.trans (grown_of k)⟩
theorem Mid.set {w W : World} {b H B2 g q n : Nat} {x : Ev} {s s' : PS} {R : List Value} {T : TypeId} (h : Mid w W b H B2 g q n x s R T) (h1 : H ≠ b) (h2 : H + 1 ≠ b) (h3 : B2 ≠ b) (h4 : g ≠ b) (i : Nat) (v : Value) (hs : (psR s R).setIfInBounds i v = psR s' R) :
    Mid w (W.setCell ⟨b, i, none⟩ v) b H B2 g q n x s' R T := by
  have hg : W.grownBy (W.setCell ⟨b, i, none⟩ v) (some b) := grown_set (World.grownBy.refl W _) rfl v
  exact ⟨(h.st.setCell i v).to hs, hg.cell h.box (by simpa using h1), h.res.setCell_ne (a := ⟨b, i, none⟩) h2 v, hg.cell h.ptr (by simpa using h3), h.op.grown hg (by simpa using h4), grown_set h.grown rfl v⟩
theorem grown_new {w w' : World} {row : Option Nat} (h : w.grownBy w' row) {a : Addr} (ha : w.heap.size ≤ a.block) (v : Value) : w.grownBy (w'.setCell a v) row :=
  ⟨h.os, h.tape, h.output, by simpa [World.setCell] using h.size, fun k hk hne => (Below.heap_setCell _ _ _ _ (by omega)).trans (h.block k hk hne)⟩
theorem Mid.fin {w W : World} {b H B2 g q n : Nat} {x : Ev} {s : PS} {R : List Value} {T : TypeId} (h : Mid w W b H B2 g q n x s R T) (hH : w.heap.size ≤ H + 1) (hne : H + 1 ≠ b) (v0 v1 v2 : Value) :
    Has (((W.setCell ⟨H + 1, 0, none⟩ v0).setCell ⟨H + 1, 1, none⟩ v1).setCell ⟨H + 1, 2, none⟩ v2) b (psR s R) T ∧ w.grownBy (((W.setCell ⟨H + 1, 0, none⟩ v0).setCell ⟨H + 1, 1, none⟩ v1).setCell ⟨H + 1, 2, none⟩ v2) (some b) :=
  ⟨((h.st.setCell_ne (a := ⟨H + 1, 0, none⟩) hne.symm v0).setCell_ne (a := ⟨H + 1, 1, none⟩) hne.symm v1).setCell_ne (a := ⟨H + 1, 2, none⟩) hne.symm v2, grown_new (grown_new (grown_new h.grown (a := ⟨H + 1, 0, none⟩) hH v0) (a := ⟨H + 1, 1, none⟩) hH v1) (a := ⟨H + 1, 2, none⟩) hH v2⟩
end Go.Proofs.Ythfeakfakjecoaa
