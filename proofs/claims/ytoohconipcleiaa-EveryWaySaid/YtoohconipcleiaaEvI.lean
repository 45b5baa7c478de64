/- The closed fact of the laws on all ends: a program of one addition. -/
import Derived.Test.YtoohconipcleiaaEvZ
namespace Go.Proofs.Ytoohconipcleiaa
open Go.RowKit

set_option maxRecDepth 100000 in
set_option maxHeartbeats 4000000 in
theorem everied_any (w : World) : Calls Try.prog 22 #[] w fun r w' => r = .returned (.bool true) ∧ Below w.heap.size w w' := by
  have hends := fun (w1 : World) (a : Option Addr) (h : PgS w1 a pOne) => ends_any pOne a 1 w1 h
  have hl1 : pOne.length = 1 := rfl
  rw [hl1] at hends
  go_enter Try.func22, Try.ntmps22
  go_wp2_with fail
  generalize hW : World.alloc (World.alloc _ _) _ = W
  have hk : Below w.heap.size w W := by rw [← hW]; exact ((Below.refl _ _).alloc (Nat.le_refl _) _).alloc (by simp) _
  have hP : PgS W (some ⟨w.heap.size + 1, 0, none⟩) pOne := by
    have h1 : Has W w.heap.size #[.int .i64 3, .int .i64 0, .int .i64 1] 40 := by rw [← hW]; exact (Has.new w _ _).alloc _
    have h2 : Has W (w.heap.size + 1) #[.slice (some ⟨w.heap.size, 0, none⟩) 1 1] 38 := by rw [← hW]; exact (Has.new _ _ _).at (by simp)
    refine ⟨by decide, .inr ⟨w.heap.size + 1, 0, rfl, fun t ht => ?_⟩⟩
    obtain rfl : t = 0 := by simp [pOne] at ht; exact ht
    exact ⟨some ⟨w.heap.size, 0, none⟩, 1, h2.cell rfl, evS_full (l := [⟨3, 0, 1⟩]) h1 rfl (by decide)⟩
  clear hW
  refine (hends W _ hP).mono ?_
  rintro r w1 ⟨hb1, h⟩
  have hk1 := hk.trans (hb1.mono hk.size)
  rcases h with ⟨h0, _⟩ | ⟨_, all, a, c, hA, rfl, hES, _⟩
  · exact absurd (by decide) h0
  · obtain ⟨x, rfl, hx1, hx2, _⟩ := everied_out hA
    obtain ⟨b, o, rfl, hr⟩ := hES.at (i := 0) (by simp)
    have g1 : w1.cell? ⟨b, o + 0 * 20 + 12, none⟩ = some (.int .i64 1) := hr 12 _ (by
      rw [Array.getElem?_toList]
      show (endC x.1 x.2.1 x.2.2)[12]? = _
      rw [endC_get _ _ _ (by omega)]
      simp [psF, hx1])
    have g2 : w1.cell? ⟨b, o + 0 * 20 + 18, none⟩ = some (.bool true) := hr 18 _ (by
      rw [Array.getElem?_toList]
      show (endC x.1 x.2.1 x.2.2)[18]? = _
      rw [endC_get _ _ _ (by omega)]
      simp [psF, hx2])
    rw [Nat.zero_mul, Nat.add_zero] at g1 g2
    clear hends hP hk hA hES hr hb1 hx1 hx2
    go_wp2
    go_ret
    exact ⟨rfl, hk1⟩
end Go.Proofs.Ytoohconipcleiaa
