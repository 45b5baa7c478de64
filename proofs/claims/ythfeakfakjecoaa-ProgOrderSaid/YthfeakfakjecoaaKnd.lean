/- The map of ops' kinds to events' kinds, that two laws make. -/
import Derived.Test.YthfeakfakjecoaaPgT
import Derived.Test.YthfeakfakjecoaaMapI
namespace Go.Proofs.Ythfeakfakjecoaa
open Go.RowKit

theorem MapI.to {w : World} {b n : Nat} {f g : Int → Int} (h : MapI w b n f) (e : ∀ i, f i = g i) : MapI w b n g := by rw [← funext e]; exact h
set_option maxRecDepth 100000 in
theorem kinds_fill (w : World) : ∃ w1 w2 w3 w4 w5 w6 w7 w8 : World,
    (Instr.mapUpdate 39 (.map (some w.heap.size)) (.int .i64 1) (.int .i64 1)).run Try.prog (w.alloc (.map #[] 0)) = .ok () w1 ∧
    (Instr.mapUpdate 39 (.map (some w.heap.size)) (.int .i64 2) (.int .i64 2)).run Try.prog w1 = .ok () w2 ∧
    (Instr.mapUpdate 39 (.map (some w.heap.size)) (.int .i64 4) (.int .i64 3)).run Try.prog w2 = .ok () w3 ∧
    (Instr.mapUpdate 39 (.map (some w.heap.size)) (.int .i64 5) (.int .i64 4)).run Try.prog w3 = .ok () w4 ∧
    (Instr.mapUpdate 39 (.map (some w.heap.size)) (.int .i64 6) (.int .i64 5)).run Try.prog w4 = .ok () w5 ∧
    (Instr.mapUpdate 39 (.map (some w.heap.size)) (.int .i64 7) (.int .i64 6)).run Try.prog w5 = .ok () w6 ∧
    (Instr.mapUpdate 39 (.map (some w.heap.size)) (.int .i64 8) (.int .i64 7)).run Try.prog w6 = .ok () w7 ∧
    (Instr.mapUpdate 39 (.map (some w.heap.size)) (.int .i64 9) (.int .i64 8)).run Try.prog w7 = .ok () w8 ∧
    MapI w8 w.heap.size 8 evK ∧ (w.alloc (.map #[] 0)).grownBy w8 (some w.heap.size) := by
  have h0 := MapI.made w
  obtain ⟨w1, r1, h1, g1⟩ := h0.put (by decide) (k := 1) (by unfold I64; decide) 1 (by unfold I64; decide)
  obtain ⟨w2, r2, h2, g2⟩ := h1.put (by decide) (k := 2) (by unfold I64; decide) 2 (by unfold I64; decide)
  obtain ⟨w3, r3, h3, g3⟩ := h2.put (by decide) (k := 4) (by unfold I64; decide) 3 (by unfold I64; decide)
  obtain ⟨w4, r4, h4, g4⟩ := h3.put (by decide) (k := 5) (by unfold I64; decide) 4 (by unfold I64; decide)
  obtain ⟨w5, r5, h5, g5⟩ := h4.put (by decide) (k := 6) (by unfold I64; decide) 5 (by unfold I64; decide)
  obtain ⟨w6, r6, h6, g6⟩ := h5.put (by decide) (k := 7) (by unfold I64; decide) 6 (by unfold I64; decide)
  obtain ⟨w7, r7, h7, g7⟩ := h6.put (by decide) (k := 8) (by unfold I64; decide) 7 (by unfold I64; decide)
  obtain ⟨w8, r8, h8, g8⟩ := h7.put (by decide) (k := 9) (by unfold I64; decide) 8 (by unfold I64; decide)
  refine ⟨w1, w2, w3, w4, w5, w6, w7, w8, r1, r2, r3, r4, r5, r6, r7, r8, h8.to (fun i => ?_), ((((((g1.trans g2).trans g3).trans g4).trans g5).trans g6).trans g7).trans g8⟩
  unfold evK
  (repeat' split) <;> omega
theorem evK_I64 (k : Int) : I64 (evK k) := by
  unfold evK I64
  (repeat' split) <;> decide
end Go.Proofs.Ythfeakfakjecoaa
