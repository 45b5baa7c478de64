/- Contracts of clock.Of, clock.Seen. -/
import Derived.Test.YtmeidjhojanogaaDoorMJ
namespace Go.Proofs.YtmeidjhojanogaaDoor
open Go.RowKit

theorem isThread_yes (t : Int) (w : World) (h0 : 0 ≤ t) (h6 : t < 6) :
    Calls Tryd.prog 89 #[.int .i64 t] w fun e w' => e = .returned (.bool true) ∧ w = w' := by
  go_enter Tryd.func89, Tryd.ntmps89
  go_wp2
  go_ret
  exact ⟨rfl, rfl⟩
set_option maxHeartbeats 400000 in
theorem of_ok (f : Nat → Int) (k : Nat) (w : World) (h : k < 6) :
    Calls Tryd.prog 78 #[clkV f, .int .i64 k] w fun e w' => e = .returned (.tuple #[.agg #[.int .i64 k, .int .i64 (f k)], .int .i64 0]) ∧ Below w.heap.size w w' := by
  go_enter Tryd.func78, Tryd.ntmps78
  go_wp2_with fail
  have h0 := (Has.new w (clkC f) 95).alloc (.cells #[.int .i64 0, .int .i64 0] 126)
  have h2 := (Has.new (w.alloc (.cells (clkC f) 95)) #[.int .i64 0, .int .i64 0] 126).at (c := w.heap.size + 1) (by simp)
  have hb : Below w.heap.size w ((w.alloc (.cells (clkC f) 95)).alloc (.cells #[.int .i64 0, .int .i64 0] 126)) := ((Below.refl _ _).alloc (by simp) _).alloc (by simp) _
  generalize (w.alloc (.cells (clkC f) 95)).alloc (.cells #[.int .i64 0, .int .i64 0] 126) = w1 at *
  refine (isThread_yes _ _ (by omega) (by omega)).mono ?_
  rintro e w' ⟨rfl, rfl⟩
  have c := h0.cell (clkC_get f k h)
  have d0 : w1.cell? ⟨w.heap.size + 1, 0, none⟩ = some (.int .i64 0) := h2.cell rfl
  have d1 : w1.cell? ⟨w.heap.size + 1, 1, none⟩ = some (.int .i64 0) := h2.cell rfl
  have e0 := h2.free 0
  have e1 := h2.free 1
  go_wp2
  clear d0 d1 e0 e1
  refine end_has (b := w.heap.size + 1) (B := w.heap.size) (w := w) (cs := #[.int .i64 k, .int .i64 (f k)]) (t := 126) ?_ ?_ ?_
  · exact ((h2.setCell _ _).setCell _ _).to (by simp)
  · exact ((hb.setCell (by simp) _).setCell (by simp) _)
  intro W hW hB
  have c0 : W.cell? ⟨w.heap.size + 1, 0, none⟩ = some (.int .i64 k) := hW.cell rfl
  have c1 : W.cell? ⟨w.heap.size + 1, 1, none⟩ = some (.int .i64 (f k)) := hW.cell rfl
  exact bodyPost_ret (v := .tuple #[.agg #[.int .i64 k, .int .i64 (f k)], .int .i64 0]) (by simp [results, Tryd.results78, go_sem, c0, c1]) rfl ⟨rfl, hB⟩

set_option maxHeartbeats 400000 in
theorem seen_ok (n : Int) (f : Nat → Int) (k : Nat) (w : World) (h : k < 6) :
    Calls Tryd.prog 90 #[.agg #[.int .i64 k, .int .i64 n], clkV f] w fun e w' => e = .returned (.bool (decide (n ≤ f k))) ∧ Below w.heap.size w w' := by
  go_enter Tryd.func90, Tryd.ntmps90
  go_wp2
  have h0 := (Has.new w #[.int .i64 k, .int .i64 n] 126).alloc (.cells (clkC f) 95)
  have h2 := (Has.new (w.alloc (.cells #[.int .i64 k, .int .i64 n] 126)) (clkC f) 95).at (c := w.heap.size + 1) (by simp)
  have hb : Below w.heap.size w ((w.alloc (.cells #[.int .i64 k, .int .i64 n] 126)).alloc (.cells (clkC f) 95)) := ((Below.refl _ _).alloc (by simp) _).alloc (by simp) _
  generalize (w.alloc (.cells #[.int .i64 k, .int .i64 n] 126)).alloc (.cells (clkC f) 95) = w1 at *
  have c := h2.cell (clkC_get f k h)
  have d0 : w1.cell? ⟨w.heap.size, 0, none⟩ = some (.int .i64 k) := h0.cell rfl
  have d1 : w1.cell? ⟨w.heap.size, 1, none⟩ = some (.int .i64 n) := h0.cell rfl
  have i0 : (0 : Int) ≤ k := by omega
  have i1 : (k : Int) < 6 := by omega
  go_quiet ((go_at_call 89; exact Calls.quiet_of_same ((isThread_yes _ _ (by omega) (by omega)).mono fun _ _ hh => ⟨hh.1, hh.2.symm⟩)))
  go_wp2
  go_ret
  exact ⟨rfl, below_drewN hb _⟩
end Go.Proofs.YtmeidjhojanogaaDoor
