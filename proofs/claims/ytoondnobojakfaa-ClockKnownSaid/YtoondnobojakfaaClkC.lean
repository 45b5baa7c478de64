/- Contracts of package clock: Compare, Tick, Of, Seen. -/
import Derived.Test.YtoondnobojakfaaClkB
namespace Go.Proofs.Ytoondnobojakfaa
open Go.RowKit

/-- How two clocks lie. -/
def ccmp (f g : Nat → Int) : Int := if ceq f g then 0 else if cle f g then 1 else if cle g f then 2 else 3

set_option maxHeartbeats 1000000 in
theorem compare_any (f g : Nat → Int) (w : World) :
    Calls Try.prog 11 #[clkV f, clkV g] w fun e w' => e = .returned (.int .i64 (ccmp f g)) ∧ Below w.heap.size w w' := by
  have heq := eql_clk f g
  by_cases h1 : ceq f g = true
  · go_enter Try.func11, Try.ntmps11
    go_wp2
    go_ret
    exact ⟨ret_int (by simp [ccmp, h1]), ((Below.refl _ w).alloc (by simp) _).alloc (by simp) _⟩
  · have e1 : ceq f g = false := by simpa using h1
    by_cases h2 : cle f g = true
    · go_enter Try.func11, Try.ntmps11
      go_wp2_with fail
      refine (within_any f g _).mono ?_
      rintro e w' ⟨rfl, hk⟩
      go_wp2
      go_ret
      exact ⟨ret_int (by simp [ccmp, e1, h2]), (((Below.refl _ w).alloc (by simp) _).alloc (by simp) _).trans (hk.mono (by simp; omega))⟩
    · have e2 : cle f g = false := by simpa using h2
      by_cases h3 : cle g f = true
      all_goals
        try (have e3 : cle g f = false := by simpa using h3)
        go_enter Try.func11, Try.ntmps11
        go_wp2_with fail
        refine (within_any f g _).mono ?_
        rintro e w' ⟨rfl, hk⟩
        obtain ⟨hc, hf⟩ := bcell hk
        go_wp2_with fail
        refine (within_any g f _).mono ?_
        rintro e w'' ⟨rfl, hk2⟩
        go_wp2
        go_ret
        exact ⟨ret_int (by simp [ccmp, e1, e2, h3]), ((((Below.refl _ w).alloc (by simp) _).alloc (by simp) _).trans (hk.mono (by simp; omega))).trans (hk2.mono (by have := hk.size; simp at this; omega))⟩

theorem isThread_yes (t : Int) (w : World) (h0 : 0 ≤ t) (h6 : t < 6) :
    Calls Try.prog 20 #[.int .i64 t] w fun e w' => e = .returned (.bool true) ∧ w = w' := by
  go_enter Try.func20, Try.ntmps20
  go_wp2
  go_ret
  exact ⟨rfl, rfl⟩
theorem isThread_no (t : Int) (w : World) (h : t < 0 ∨ 6 ≤ t) :
    Calls Try.prog 20 #[.int .i64 t] w fun e w' => e = .returned (.bool false) ∧ w = w' := by
  rcases h with h | h
  · go_enter Try.func20, Try.ntmps20
    go_wp2
    go_ret
    exact ⟨rfl, rfl⟩
  · have h0 : 0 ≤ t := by omega
    have h1 : decide (t < 6) = false := by simp; omega
    go_enter Try.func20, Try.ntmps20
    go_wp2
    go_ret
    exact ⟨rfl, rfl⟩

set_option maxHeartbeats 400000 in
theorem tick_bad (f : Nat → Int) (t : Int) (w : World) (h : t < 0 ∨ 6 ≤ t) :
    Calls Try.prog 16 #[clkV f, .int .i64 t] w fun e w' => e = .returned (.tuple #[clkV fun _ => 0, .int .i64 1]) ∧ Below w.heap.size w w' := by
  go_enter Try.func16, Try.ntmps16
  go_wp2_with (go_at_call 20; refine (isThread_no t _ h).mono ?_; rintro e w' ⟨rfl, rfl⟩)
  refine bodyPost_ret (v := .tuple #[clkV fun _ => 0, .int .i64 1]) (by simp [results, Try.results16, go_sem]) rfl ⟨rfl, ((Below.refl _ w).alloc (by simp) _).alloc (by simp) _⟩

/-- One more at a place. -/
def cup (f : Nat → Int) (k : Nat) (d : Int) : Nat → Int := fun i => if i = k then f i + d else f i

set_option maxHeartbeats 400000 in
theorem tick_large (f : Nat → Int) (k : Nat) (w : World) (h : k < 6) (hl : 1000000 ≤ f k) :
    Calls Try.prog 16 #[clkV f, .int .i64 k] w fun e w' => e = .returned (.tuple #[clkV fun _ => 0, .int .i64 2]) ∧ Below w.heap.size w w' := by
  go_enter Try.func16, Try.ntmps16
  go_wp2_with fail
  have h0 := (Has.new w (clkC f) 23).alloc (.cells (clkC fun _ => 0) 23)
  have h2 := (Has.new (w.alloc (.cells (clkC f) 23)) (clkC fun _ => 0) 23).at (c := w.heap.size + 1) (by simp)
  have hb : Below w.heap.size w ((w.alloc (.cells (clkC f) 23)).alloc (.cells (clkC fun _ => 0) 23)) := ((Below.refl _ _).alloc (by simp) _).alloc (by simp) _
  generalize (w.alloc (.cells (clkC f) 23)).alloc (.cells (clkC fun _ => 0) 23) = w1 at *
  refine (isThread_yes _ _ (by omega) (by omega)).mono ?_
  rintro e w' ⟨rfl, rfl⟩
  have c := h0.cell (clkC_get f k h)
  obtain ⟨d0, d1, d2, d3, d4, d5⟩ := h2.clk
  obtain ⟨e0, e1, e2, e3, e4, e5⟩ := h2.clkFree
  go_wp2
  clear d0 d1 d2 d3 d4 d5 e0 e1 e2 e3 e4 e5
  refine end_has (b := w.heap.size + 1) (B := w.heap.size) (w := w) (cs := clkC fun _ => 0) (t := 23) ?_ ?_ ?_
  · exact ((((((h2.setCell _ _).setCell _ _).setCell _ _).setCell _ _).setCell _ _).setCell _ _).to (by simp [clkC])
  · exact (((((hb.setCell (by simp) _).setCell (by simp) _).setCell (by simp) _).setCell (by simp) _).setCell (by simp) _).setCell (by simp) _
  intro W hW hB
  obtain ⟨c0, c1, c2, c3, c4, c5⟩ := hW.clk
  exact bodyPost_ret (v := .tuple #[clkV fun _ => 0, .int .i64 2]) (by simp [results, Try.results16, go_sem, c0, c1, c2, c3, c4, c5]) rfl ⟨rfl, hB⟩

set_option maxHeartbeats 400000 in
theorem tick_ok (f : Nat → Int) (k : Nat) (w : World) (h : k < 6) (hl : f k < 1000000) (hm : -9223372036854775808 ≤ f k) :
    Calls Try.prog 16 #[clkV f, .int .i64 k] w fun e w' => e = .returned (.tuple #[clkV (cup f k 1), .int .i64 0]) ∧ Below w.heap.size w w' := by
  go_enter Try.func16, Try.ntmps16
  go_wp2_with fail
  have h0 := (Has.new w (clkC f) 23).alloc (.cells (clkC fun _ => 0) 23)
  have h2 := (Has.new (w.alloc (.cells (clkC f) 23)) (clkC fun _ => 0) 23).at (c := w.heap.size + 1) (by simp)
  have hb : Below w.heap.size w ((w.alloc (.cells (clkC f) 23)).alloc (.cells (clkC fun _ => 0) 23)) := ((Below.refl _ _).alloc (by simp) _).alloc (by simp) _
  generalize (w.alloc (.cells (clkC f) 23)).alloc (.cells (clkC fun _ => 0) 23) = w1 at *
  refine (isThread_yes _ _ (by omega) (by omega)).mono ?_
  rintro e w' ⟨rfl, rfl⟩
  have c := h0.cell (clkC_get f k h)
  have fr := h0.free k
  have k0 := (h0.setCell k (.int .i64 (f k + 1))).to ((clkC_set f k h (f k + 1)).trans (clkC_congr fun i _ => (by simp only [cup]; split <;> simp_all : _ = cup f k 1 i)))
  have k2 := h2.setCell_ne (a := ⟨w.heap.size, k, none⟩) (by simp) (.int .i64 (f k + 1))
  have kb := hb.setCell (p := ⟨w.heap.size, k, none⟩) (by simp) (.int .i64 (f k + 1))
  obtain ⟨c0, c1, c2, c3, c4, c5⟩ := k0.clk
  obtain ⟨d0, d1, d2, d3, d4, d5⟩ := k2.clk
  obtain ⟨e0, e1, e2, e3, e4, e5⟩ := k2.clkFree
  go_wp2
  clear d0 d1 d2 d3 d4 d5 e0 e1 e2 e3 e4 e5 c0 c1 c2 c3 c4 c5
  refine end_has (b := w.heap.size + 1) (B := w.heap.size) (w := w) (cs := clkC (cup f k 1)) (t := 23) ?_ ?_ ?_
  · exact ((((((k2.setCell _ _).setCell _ _).setCell _ _).setCell _ _).setCell _ _).setCell _ _).to (by simp [clkC])
  · exact (((((kb.setCell (by simp) _).setCell (by simp) _).setCell (by simp) _).setCell (by simp) _).setCell (by simp) _).setCell (by simp) _
  intro W hW hB
  obtain ⟨c0, c1, c2, c3, c4, c5⟩ := hW.clk
  exact bodyPost_ret (v := .tuple #[clkV (cup f k 1), .int .i64 0]) (by simp [results, Try.results16, go_sem, c0, c1, c2, c3, c4, c5]) rfl ⟨rfl, hB⟩

set_option maxHeartbeats 400000 in
theorem of_ok (f : Nat → Int) (k : Nat) (w : World) (h : k < 6) :
    Calls Try.prog 14 #[clkV f, .int .i64 k] w fun e w' => e = .returned (.tuple #[.agg #[.int .i64 k, .int .i64 (f k)], .int .i64 0]) ∧ Below w.heap.size w w' := by
  go_enter Try.func14, Try.ntmps14
  go_wp2_with fail
  have h0 := (Has.new w (clkC f) 23).alloc (.cells #[.int .i64 0, .int .i64 0] 31)
  have h2 := (Has.new (w.alloc (.cells (clkC f) 23)) #[.int .i64 0, .int .i64 0] 31).at (c := w.heap.size + 1) (by simp)
  have hb : Below w.heap.size w ((w.alloc (.cells (clkC f) 23)).alloc (.cells #[.int .i64 0, .int .i64 0] 31)) := ((Below.refl _ _).alloc (by simp) _).alloc (by simp) _
  generalize (w.alloc (.cells (clkC f) 23)).alloc (.cells #[.int .i64 0, .int .i64 0] 31) = w1 at *
  refine (isThread_yes _ _ (by omega) (by omega)).mono ?_
  rintro e w' ⟨rfl, rfl⟩
  have c := h0.cell (clkC_get f k h)
  have d0 : w1.cell? ⟨w.heap.size + 1, 0, none⟩ = some (.int .i64 0) := h2.cell rfl
  have d1 : w1.cell? ⟨w.heap.size + 1, 1, none⟩ = some (.int .i64 0) := h2.cell rfl
  have e0 := h2.free 0
  have e1 := h2.free 1
  go_wp2
  clear d0 d1 e0 e1
  refine end_has (b := w.heap.size + 1) (B := w.heap.size) (w := w) (cs := #[.int .i64 k, .int .i64 (f k)]) (t := 31) ?_ ?_ ?_
  · exact ((h2.setCell _ _).setCell _ _).to (by simp)
  · exact ((hb.setCell (by simp) _).setCell (by simp) _)
  intro W hW hB
  have c0 : W.cell? ⟨w.heap.size + 1, 0, none⟩ = some (.int .i64 k) := hW.cell rfl
  have c1 : W.cell? ⟨w.heap.size + 1, 1, none⟩ = some (.int .i64 (f k)) := hW.cell rfl
  exact bodyPost_ret (v := .tuple #[.agg #[.int .i64 k, .int .i64 (f k)], .int .i64 0]) (by simp [results, Try.results14, go_sem, c0, c1]) rfl ⟨rfl, hB⟩

set_option maxHeartbeats 400000 in
theorem seen_ok (n : Int) (f : Nat → Int) (k : Nat) (w : World) (h : k < 6) :
    Calls Try.prog 15 #[.agg #[.int .i64 k, .int .i64 n], clkV f] w fun e w' => e = .returned (.bool (decide (n ≤ f k))) ∧ Below w.heap.size w w' := by
  go_enter Try.func15, Try.ntmps15
  go_wp2
  have h0 := (Has.new w #[.int .i64 k, .int .i64 n] 31).alloc (.cells (clkC f) 23)
  have h2 := (Has.new (w.alloc (.cells #[.int .i64 k, .int .i64 n] 31)) (clkC f) 23).at (c := w.heap.size + 1) (by simp)
  have hb : Below w.heap.size w ((w.alloc (.cells #[.int .i64 k, .int .i64 n] 31)).alloc (.cells (clkC f) 23)) := ((Below.refl _ _).alloc (by simp) _).alloc (by simp) _
  generalize (w.alloc (.cells #[.int .i64 k, .int .i64 n] 31)).alloc (.cells (clkC f) 23) = w1 at *
  have c := h2.cell (clkC_get f k h)
  have d0 : w1.cell? ⟨w.heap.size, 0, none⟩ = some (.int .i64 k) := h0.cell rfl
  have d1 : w1.cell? ⟨w.heap.size, 1, none⟩ = some (.int .i64 n) := h0.cell rfl
  have i0 : (0 : Int) ≤ k := by omega
  have i1 : (k : Int) < 6 := by omega
  go_quiet ((go_at_call 20; exact Calls.quiet_of_same ((isThread_yes _ _ (by omega) (by omega)).mono fun _ _ hh => ⟨hh.1, hh.2.symm⟩)))
  go_wp2
  go_ret
  exact ⟨rfl, below_drewN hb _⟩
end Go.Proofs.Ytoondnobojakfaa
