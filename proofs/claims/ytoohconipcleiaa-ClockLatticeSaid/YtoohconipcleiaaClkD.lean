/- What all laws of package clock share: the closed fact, three boxes. -/
import Derived.Test.YtoohconipcleiaaRows
import Derived.Test.YtoohconipcleiaaClkC
import Derived.Test.YtoohconipcleiaaOpen
namespace Go.Proofs.Ytoohconipcleiaa
open Go.ChangeShapes Go.WideShapes Go.ChangeAt Go.RowKit

theorem frame_own : ownKnob Try.prog.godebug = none := by kernel_rfl
theorem frame_laid : laidOutB Try.prog = true := by kernel_rfl

def k12 : Nat → Int | 0 => 1 | 1 => 2 | _ => 0
def k21 : Nat → Int | 0 => 2 | 1 => 1 | _ => 0
def k22 : Nat → Int | 0 => 2 | 1 => 2 | _ => 0
theorem clocked_any (w : World) : Calls Try.prog 34 #[] w fun e w' => e = .returned (.bool true) ∧ Below w.heap.size w w' := by
  go_enter Try.func34, Try.ntmps34
  go_wp2_with fail
  refine (compare_any k12 k21 _).mono ?_
  rintro e w1 ⟨rfl, h1⟩
  rw [show ccmp k12 k21 = 3 from by decide +kernel]
  go_wp2_with fail
  refine (compare_any k12 k22 _).mono ?_
  rintro e w2 ⟨rfl, h2⟩
  rw [show ccmp k12 k22 = 1 from by decide +kernel]
  go_wp2
  go_ret
  exact ⟨rfl, h1.trans (h2.mono h1.size)⟩

/-- Three clocks in their boxes. -/
structure Three (w0 w : World) (f g h : Nat → Int) : Prop where
  a : Has w w0.heap.size (clkC f) 73
  b : Has w (w0.heap.size + 1) (clkC g) 73
  c : Has w (w0.heap.size + 1 + 1) (clkC h) 73
  e : Below w0.heap.size w0 w
theorem Three.init (w : World) (f g h : Nat → Int) : Three w (((w.alloc (.cells (clkC f) 73)).alloc (.cells (clkC g) 73)).alloc (.cells (clkC h) 73)) f g h :=
  ⟨((Has.new w _ _).alloc _).alloc _, ((Has.new (w.alloc _) _ _).alloc _).at (by simp), (Has.new ((w.alloc _).alloc _) _ _).at (by simp), (((Below.refl _ _).alloc (by simp) _).alloc (by simp) _).alloc (by simp; omega) _⟩
theorem Three.next {w0 w w' : World} {f g h : Nat → Int} (s : Three w0 w f g h) (k : Below w.heap.size w w') : Three w0 w' f g h :=
  ⟨s.a.below k s.a.lt, s.b.below k s.b.lt, s.c.below k s.c.lt, s.e.trans (k.mono s.e.size)⟩
/-- The facts that the walk reads. -/
abbrev BoxAt3 (w0 w : World) (f g h : Nat → Int) : Prop := BoxAt w w0.heap.size f ∧ BoxAt w (w0.heap.size + 1) g ∧ BoxAt w (w0.heap.size + 1 + 1) h
theorem Three.box {w0 w : World} {f g h : Nat → Int} (s : Three w0 w f g h) : BoxAt3 w0 w f g h := ⟨s.a.clk, s.b.clk, s.c.clk⟩
end Go.Proofs.Ytoohconipcleiaa
