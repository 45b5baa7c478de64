/- Contracts of package clock: Compare, Tick, Of, Seen. -/
import Derived.Test.YtamjibnebofkfaaClkB
namespace Go.Proofs.Ytamjibnebofkfaa
open Go.RowKit

/-- How two clocks lie. -/
def ccmp (f g : Nat → Int) : Int := if ceq f g then 0 else if cle f g then 1 else if cle g f then 2 else 3

set_option maxHeartbeats 1000000 in
theorem compare_any (f g : Nat → Int) (w : World) :
    Calls Try.prog 48 #[clkV f, clkV g] w fun e w' => e = .returned (.int .i64 (ccmp f g)) ∧ Below w.heap.size w w' := by
  have heq := eql_clk f g
  by_cases h1 : ceq f g = true
  · go_enter Try.func48, Try.ntmps48
    go_wp2
    go_ret
    exact ⟨ret_int (by simp [ccmp, h1]), ((Below.refl _ w).alloc (by simp) _).alloc (by simp) _⟩
  · have e1 : ceq f g = false := by simpa using h1
    by_cases h2 : cle f g = true
    · go_enter Try.func48, Try.ntmps48
      go_wp2_with fail
      refine (within_any f g _).mono ?_
      rintro e w' ⟨rfl, hk⟩
      go_wp2
      go_ret
      exact ⟨ret_int (by simp [ccmp, e1, h2]), (((Below.refl _ w).alloc (by simp) _).alloc (by simp) _).trans (hk.mono (by simp; omega))⟩
    · have e2 : cle f g = false := by simpa using h2
      by_cases h3 : cle g f = true
      all_goals
        try (have e3 : cle g f = false := by simpa using h3)
        go_enter Try.func48, Try.ntmps48
        go_wp2_with fail
        refine (within_any f g _).mono ?_
        rintro e w' ⟨rfl, hk⟩
        obtain ⟨hc, hf⟩ := bcell hk
        go_wp2_with fail
        refine (within_any g f _).mono ?_
        rintro e w'' ⟨rfl, hk2⟩
        go_wp2
        go_ret
        exact ⟨ret_int (by simp [ccmp, e1, e2, h3]), ((((Below.refl _ w).alloc (by simp) _).alloc (by simp) _).trans (hk.mono (by simp; omega))).trans (hk2.mono (by have := hk.size; simp at this; omega))⟩

theorem isThread_yes (t : Int) (w : World) (h0 : 0 ≤ t) (h6 : t < 6) :
    Calls Try.prog 52 #[.int .i64 t] w fun e w' => e = .returned (.bool true) ∧ w = w' := by
  go_enter Try.func52, Try.ntmps52
  go_wp2
  go_ret
  exact ⟨rfl, rfl⟩
theorem isThread_no (t : Int) (w : World) (h : t < 0 ∨ 6 ≤ t) :
    Calls Try.prog 52 #[.int .i64 t] w fun e w' => e = .returned (.bool false) ∧ w = w' := by
  rcases h with h | h
  · go_enter Try.func52, Try.ntmps52
    go_wp2
    go_ret
    exact ⟨rfl, rfl⟩
  · have h0 : 0 ≤ t := by omega
    have h1 : decide (t < 6) = false := by simp; omega
    go_enter Try.func52, Try.ntmps52
    go_wp2
    go_ret
    exact ⟨rfl, rfl⟩

set_option maxHeartbeats 400000 in
theorem tick_bad (f : Nat → Int) (t : Int) (w : World) (h : t < 0 ∨ 6 ≤ t) :
    Calls Try.prog 33 #[clkV f, .int .i64 t] w fun e w' => e = .returned (.tuple #[clkV fun _ => 0, .int .i64 1]) ∧ Below w.heap.size w w' := by
  go_enter Try.func33, Try.ntmps33
  go_wp2_with (go_at_call 52; refine (isThread_no t _ h).mono ?_; rintro e w' ⟨rfl, rfl⟩)
  refine bodyPost_ret (v := .tuple #[clkV fun _ => 0, .int .i64 1]) (by simp [results, Try.results33, go_sem]) rfl ⟨rfl, ((Below.refl _ w).alloc (by simp) _).alloc (by simp) _⟩

/-- One more at a place. -/
def cup (f : Nat → Int) (k : Nat) (d : Int) : Nat → Int := fun i => if i = k then f i + d else f i

set_option maxHeartbeats 400000 in
theorem tick_large (f : Nat → Int) (k : Nat) (w : World) (h : k < 6) (hl : 1000000 ≤ f k) :
    Calls Try.prog 33 #[clkV f, .int .i64 k] w fun e w' => e = .returned (.tuple #[clkV fun _ => 0, .int .i64 2]) ∧ Below w.heap.size w w' := by
  go_enter Try.func33, Try.ntmps33
  go_wp2_with fail
  have h0 := (Has.new w (clkC f) 53).alloc (.cells (clkC fun _ => 0) 53)
  have h2 := (Has.new (w.alloc (.cells (clkC f) 53)) (clkC fun _ => 0) 53).at (c := w.heap.size + 1) (by simp)
  have hb : Below w.heap.size w ((w.alloc (.cells (clkC f) 53)).alloc (.cells (clkC fun _ => 0) 53)) := ((Below.refl _ _).alloc (by simp) _).alloc (by simp) _
  generalize (w.alloc (.cells (clkC f) 53)).alloc (.cells (clkC fun _ => 0) 53) = w1 at *
  refine (isThread_yes _ _ (by omega) (by omega)).mono ?_
  rintro e w' ⟨rfl, rfl⟩
  have c := h0.cell (clkC_get f k h)
  obtain ⟨d0, d1, d2, d3, d4, d5⟩ := h2.clk
  obtain ⟨e0, e1, e2, e3, e4, e5⟩ := h2.clkFree
  go_wp2
  clear d0 d1 d2 d3 d4 d5 e0 e1 e2 e3 e4 e5
  refine end_has (b := w.heap.size + 1) (B := w.heap.size) (w := w) (cs := clkC fun _ => 0) (t := 53) ?_ ?_ ?_
  · exact ((((((h2.setCell _ _).setCell _ _).setCell _ _).setCell _ _).setCell _ _).setCell _ _).to (by simp [clkC])
  · exact (((((hb.setCell (by simp) _).setCell (by simp) _).setCell (by simp) _).setCell (by simp) _).setCell (by simp) _).setCell (by simp) _
  intro W hW hB
  obtain ⟨c0, c1, c2, c3, c4, c5⟩ := hW.clk
  exact bodyPost_ret (v := .tuple #[clkV fun _ => 0, .int .i64 2]) (by simp [results, Try.results33, go_sem, c0, c1, c2, c3, c4, c5]) rfl ⟨rfl, hB⟩

set_option maxHeartbeats 400000 in
theorem tick_ok (f : Nat → Int) (k : Nat) (w : World) (h : k < 6) (hl : f k < 1000000) (hm : -9223372036854775808 ≤ f k) :
    Calls Try.prog 33 #[clkV f, .int .i64 k] w fun e w' => e = .returned (.tuple #[clkV (cup f k 1), .int .i64 0]) ∧ Below w.heap.size w w' := by
  go_enter Try.func33, Try.ntmps33
  go_wp2_with fail
  have h0 := (Has.new w (clkC f) 53).alloc (.cells (clkC fun _ => 0) 53)
  have h2 := (Has.new (w.alloc (.cells (clkC f) 53)) (clkC fun _ => 0) 53).at (c := w.heap.size + 1) (by simp)
  have hb : Below w.heap.size w ((w.alloc (.cells (clkC f) 53)).alloc (.cells (clkC fun _ => 0) 53)) := ((Below.refl _ _).alloc (by simp) _).alloc (by simp) _
  generalize (w.alloc (.cells (clkC f) 53)).alloc (.cells (clkC fun _ => 0) 53) = w1 at *
  refine (isThread_yes _ _ (by omega) (by omega)).mono ?_
  rintro e w' ⟨rfl, rfl⟩
  have c := h0.cell (clkC_get f k h)
  have fr := h0.free k
  have k0 := (h0.setCell k (.int .i64 (f k + 1))).to ((clkC_set f k h (f k + 1)).trans (clkC_congr fun i _ => (by simp only [cup]; split <;> simp_all : _ = cup f k 1 i)))
  have k2 := h2.setCell_ne (a := ⟨w.heap.size, k, none⟩) (by simp) (.int .i64 (f k + 1))
  have kb := hb.setCell (p := ⟨w.heap.size, k, none⟩) (by simp) (.int .i64 (f k + 1))
  obtain ⟨c0, c1, c2, c3, c4, c5⟩ := k0.clk
  obtain ⟨d0, d1, d2, d3, d4, d5⟩ := k2.clk
  obtain ⟨e0, e1, e2, e3, e4, e5⟩ := k2.clkFree
  go_wp2
  clear d0 d1 d2 d3 d4 d5 e0 e1 e2 e3 e4 e5 c0 c1 c2 c3 c4 c5
  refine end_has (b := w.heap.size + 1) (B := w.heap.size) (w := w) (cs := clkC (cup f k 1)) (t := 53) ?_ ?_ ?_
  · exact ((((((k2.setCell _ _).setCell _ _).setCell _ _).setCell _ _).setCell _ _).setCell _ _).to (by simp [clkC])
  · exact (((((kb.setCell (by simp) _).setCell (by simp) _).setCell (by simp) _).setCell (by simp) _).setCell (by simp) _).setCell (by simp) _
  intro W hW hB
  obtain ⟨c0, c1, c2, c3, c4, c5⟩ := hW.clk
  exact bodyPost_ret (v := .tuple #[clkV (cup f k 1), .int .i64 0]) (by simp [results, Try.results33, go_sem, c0, c1, c2, c3, c4, c5]) rfl ⟨rfl, hB⟩

end Go.Proofs.Ytamjibnebofkfaa
