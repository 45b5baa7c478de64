/- Contracts of package clock: Join, Meet, Within, Compare, Tick, Of, Seen. -/
import Derived.Test.YtdhbgbneadcmiaaClkA
import Derived.Test.YtdhbgbneadcmiaaEq
import Derived.Deep.RegionWith
import Derived.Deep.RegionHeld3
namespace Go.Proofs.Ytdhbgbneadcmiaa
open Go.RowKit

theorem clk_info : ∃ i, Try.prog.info? 3 = some i := info_of_underlying Try.underlying3
theorem clk_cells : Try.prog.cellsOf 3 = 1 := by kernel_rfl
theorem eql_clk (f g : Nat → Int) (w : World) : (binOp .eql 73 (clkV f) (clkV g)).run Try.prog w = .ok (.bool (ceq f g)) w := by
  obtain ⟨i, hi⟩ := clk_info
  exact run_eql_clk Try.underlying73 Try.underlying3 hi clk_cells f g w
theorem neq_clk (f g : Nat → Int) (w : World) : (binOp .neq 73 (clkV f) (clkV g)).run Try.prog w = .ok (.bool (!ceq f g)) w := by
  obtain ⟨i, hi⟩ := clk_info
  exact run_neq_clk Try.underlying73 Try.underlying3 hi clk_cells f g w

set_option maxHeartbeats 400000 in
theorem join_any (f g : Nat → Int) (w : World) :
    Calls Try.prog 72 #[clkV f, clkV g] w fun e w' => e = .returned (clkV (cmax f g)) ∧ Below w.heap.size w w' := by
  go_enter Try.func72, Try.ntmps72
  go_wp2_with fail
  have h2 := (Has.new ((w.alloc (.cells (clkC f) 73)).alloc (.cells (clkC g) 73)) (clkC fun _ => 0) 73).at (c := w.heap.size + 1 + 1) (by simp)
  have hb : Below w.heap.size w (((w.alloc (.cells (clkC f) 73)).alloc (.cells (clkC g) 73)).alloc (.cells (clkC fun _ => 0) 73)) := (((Below.refl _ _).alloc (by simp) _).alloc (by simp) _).alloc (by simp; omega) _
  generalize ((w.alloc (.cells (clkC f) 73)).alloc (.cells (clkC g) 73)).alloc (.cells (clkC fun _ => 0) 73) = w1 at *
  refine (merge_max f g _).mono ?_
  rintro e w' ⟨rfl, hk⟩
  have h2' := h2.below hk h2.lt
  have hb' := hb.trans (hk.mono hb.size)
  obtain ⟨d0, d1, d2, d3, d4, d5⟩ := h2'.clk
  obtain ⟨e0, e1, e2, e3, e4, e5⟩ := h2'.clkFree
  go_wp2
  clear d0 d1 d2 d3 d4 d5 e0 e1 e2 e3 e4 e5
  refine end_has (b := w.heap.size + 1 + 1) (B := w.heap.size) (w := w) (cs := clkC (cmax f g)) (t := 73) ?_ ?_ ?_
  · exact ((((((h2'.setCell _ _).setCell _ _).setCell _ _).setCell _ _).setCell _ _).setCell _ _).to (by simp [clkC, cmax])
  · exact (((((hb'.setCell (by simp; omega) _).setCell (by simp; omega) _).setCell (by simp; omega) _).setCell (by simp; omega) _).setCell (by simp; omega) _).setCell (by simp; omega) _
  intro W hW hB
  obtain ⟨c0, c1, c2, c3, c4, c5⟩ := hW.clk
  exact bodyPost_ret (v := clkV (cmax f g)) (by simp [results, Try.results72, go_sem, c0, c1, c2, c3, c4, c5]) rfl ⟨rfl, hB⟩

/-- The cells of a clock's box. -/
abbrev BoxAt (w : World) (b : Nat) (f : Nat → Int) : Prop :=
  w.cell? ⟨b, 0, none⟩ = some (.int .i64 (f 0)) ∧ w.cell? ⟨b, 1, none⟩ = some (.int .i64 (f 1)) ∧ w.cell? ⟨b, 2, none⟩ = some (.int .i64 (f 2)) ∧
    w.cell? ⟨b, 3, none⟩ = some (.int .i64 (f 3)) ∧ w.cell? ⟨b, 4, none⟩ = some (.int .i64 (f 4)) ∧ w.cell? ⟨b, 5, none⟩ = some (.int .i64 (f 5))

set_option maxHeartbeats 400000 in
theorem within_any (f g : Nat → Int) (w : World) :
    Calls Try.prog 73 #[clkV f, clkV g] w fun e w' => e = .returned (.bool (cle f g)) ∧ Below w.heap.size w w' := by
  have heq := eql_clk (cmax f g) g
  go_enter Try.func73, Try.ntmps73
  go_wp2
  have h0 : Has ((w.alloc (.cells (clkC f) 73)).alloc (.cells (clkC g) 73)) w.heap.size (clkC f) 73 := (Has.new _ _ _).alloc _
  have h1 : Has ((w.alloc (.cells (clkC f) 73)).alloc (.cells (clkC g) 73)) (w.heap.size + 1) (clkC g) 73 := (Has.new (w.alloc _) _ _).at (by simp)
  have hb : Below w.heap.size w ((w.alloc (.cells (clkC f) 73)).alloc (.cells (clkC g) 73)) := ((Below.refl _ _).alloc (by simp) _).alloc (by simp) _
  have hz : w.heap.size + 1 < ((w.alloc (.cells (clkC f) 73)).alloc (.cells (clkC g) 73)).heap.size := by simp
  generalize (w.alloc (.cells (clkC f) 73)).alloc (.cells (clkC g) 73) = w1 at *
  have k0 := h0.clk
  have k1 := h1.clk
  go_region_held3 (fun W => (Has W w.heap.size (clkC f) 73 ∧ Has W (w.heap.size + 1) (clkC g) 73 ∧ Below w.heap.size w W) ∧ BoxAt W w.heap.size f ∧ BoxAt W (w.heap.size + 1) g) (first | exact ⟨⟨h0.drew, h1.drew, hb.drew⟩, h0.clk, h1.clk⟩ | (have j0 := h0.drew.below hk (by simp; omega); have j1 := h1.drew.below hk (by simp; omega); exact ⟨⟨j0, j1, hb.drew.trans (hk.mono (by simp; omega))⟩, j0.clk, j1.clk⟩)) (first | (go_at_call 72; refine (join_any f g _).mono ?_; rintro e w' ⟨rfl, hk⟩))
  go_wp2
  go_ret
  exact ⟨ret_bool (by rw [Bool.eq_iff_iff, ceq_iff, cle_iff]; exact forall_congr' fun i => imp_congr Iff.rfl (by simp only [cmax]; omega)), hb.drew.trans (hk.mono (by simp; omega))⟩
end Go.Proofs.Ytdhbgbneadcmiaa
