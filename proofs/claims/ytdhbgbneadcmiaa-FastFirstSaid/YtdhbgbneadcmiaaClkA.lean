/- Contracts of package clock: merge's helpers. -/
import Derived.Test.YtdhbgbneadcmiaaChecked
import Derived.Test.YtdhbgbneadcmiaaBase
namespace Go.Proofs.Ytdhbgbneadcmiaa
open Go.RowKit

set_option maxHeartbeats 400000 in
theorem greater_any (x y : Int) (b o c : Nat) (w : World) (hx : w.cell? ⟨b, o, none⟩ = some (.int .i64 x)) (hy : w.cell? ⟨b, o + 1, none⟩ = some (.int .i64 y)) :
    Calls Try.prog 90 #[.slice (some ⟨b, o, none⟩) 2 c] w fun e w' => e = .returned (.int .i64 (max x y)) ∧ Quiet w w' := by
  go_enter Try.func90, Try.ntmps90
  go_wp2
  go_quiet (fail)
  go_wp2
  all_goals
    go_ret
    exact ⟨ret_int (by omega), nq, rfl⟩

/-- What merge's loop holds: the first k places are joined. -/
def upTo (p : Int → Int → Int) (f g : Nat → Int) (k : Nat) (i : Nat) : Int := if i < k then p (f i) (g i) else f i

set_option maxHeartbeats 1000000 in
theorem merge_max (f g : Nat → Int) (w : World) :
    Calls Try.prog 89 #[clkV f, clkV g, .func (.func 90) #[] #[]] w fun e w' => e = .returned (clkV fun i => max (f i) (g i)) ∧ Below w.heap.size w w' := by
  go_enter Try.func89, Try.ntmps89
  go_wp2
  go_loopw [7, 8, 10] (fun _ _ i wr => ∃ k : Nat, k ≤ 6 ∧ i = .int .i64 k ∧ w.heap.size + 2 < wr.heap.size ∧ Has wr w.heap.size (clkC (upTo max f g k)) 73 ∧ Has wr (w.heap.size + 2) (clkC fun _ => 0) 73 ∧ Below w.heap.size w wr) (fun _ _ i _ => 6 - (intOf i).toNat)
  case atStart => exact ⟨0, by omega, rfl, by simp, ((Has.new _ _ _).alloc _).alloc _, (Has.new ((w.alloc _).alloc _) _ _).at (by simp), (((Below.refl _ _).alloc (Nat.le_refl _) _).alloc (by simp) _).alloc (by simp; omega) _⟩
  case round =>
    obtain ⟨k, hk, rfl, hsz, h0, h2, hb⟩ := hrel
    have fz := h0.free
    have gi : ∀ j : Nat, j < 6 → ∀ w, (Instr.index 73 (clkV g) (.int .i64 j)).run Try.prog w = .ok (.int .i64 (g j)) w := by
      intro j hj w; revert j; apply idx6 <;> kernel_rfl
    by_cases hlt : k < 6
    · have c1 := h0.cell (clkC_get _ k hlt)
      have f1 := fz k
      have g1 := gi k hlt
      clear gi fz
      have k0 := h0.alloc (.cells #[.int .i64 (upTo max f g k k), .int .i64 (g k)] 3)
      have k2 := h2.alloc (.cells #[.int .i64 (upTo max f g k k), .int .i64 (g k)] 3)
      have kb := hb.alloc (by omega) (.cells #[.int .i64 (upTo max f g k k), .int .i64 (g k)] 3)
      have ks := World.size_alloc wr (.cells #[.int .i64 (upTo max f g k k), .int .i64 (g k)] 3)
      go_wp2_with fail
      refine (greater_any _ _ _ _ _ _ (by simp; rfl) (by simp; rfl)).mono ?_
      rintro e w' ⟨rfl, q⟩
      have l0 := k0.quiet q
      have l2 := k2.quiet q
      have lb := kb.trans (q.below _)
      have ls := q.size
      have c2 := l0.cell (clkC_get _ k hlt)
      have f2 := l0.free k
      clear q k0 k2 kb h0 h2 hb c1 f1 g1
      go_wp2
      go_roundw
      case rel => exact ⟨k + 1, by omega, by go_num, by simp; omega, (l0.setCell _ _).to (by rw [clkC_set _ k hlt]; exact clkC_congr fun i hi => by simp only [upTo]; split <;> split <;> split <;> (first | rfl | omega | (subst_vars; rfl) | skip)), l2.setCell_ne (by simp) _, lb.setCell (by simp) _⟩
      case measure => simp [intOf]; omega
    · obtain rfl : k = 6 := by omega
      obtain ⟨c0, c1, c2, c3, c4, c5⟩ := h0.clk
      have h2' : Has wr (w.heap.size + 1 + 1) (clkC fun _ => 0) 73 := h2
      obtain ⟨d0, d1, d2, d3, d4, d5⟩ := h2'.clk
      obtain ⟨e0, e1, e2, e3, e4, e5⟩ := h2'.clkFree
      clear gi fz
      go_wp2
      refine end_has (b := w.heap.size + 1 + 1) (B := w.heap.size) (w := w) (cs := clkC (upTo max f g 6)) (t := 73) ?_ ?_ ?_
      · exact ((((((h2'.setCell _ _).setCell _ _).setCell _ _).setCell _ _).setCell _ _).setCell _ _).to (by simp [clkC])
      · exact (((((hb.setCell (by simp; omega) _).setCell (by simp; omega) _).setCell (by simp; omega) _).setCell (by simp; omega) _).setCell (by simp; omega) _).setCell (by simp; omega) _
      clear d0 d1 d2 d3 d4 d5 e0 e1 e2 e3 e4 e5 c0 c1 c2 c3 c4 c5
      intro W hW hB
      obtain ⟨c0, c1, c2, c3, c4, c5⟩ := hW.clk
      exact bodyPost_ret (v := clkV (upTo max f g 6)) (by simp [results, Try.results89, go_sem, c0, c1, c2, c3, c4, c5]) rfl ⟨congrArg Ending.returned (clkV_congr fun i hi => by simp [upTo, hi]), hB⟩

end Go.Proofs.Ytdhbgbneadcmiaa
