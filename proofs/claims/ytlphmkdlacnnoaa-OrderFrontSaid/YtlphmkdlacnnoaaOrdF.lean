/- The closed fact 'ordered'. -/
import Derived.Test.YtlphmkdlacnnoaaOrdE
import Derived.Test.YtlphmkdlacnnoaaEqP
namespace Go.Proofs.Ytlphmkdlacnnoaa
open Go.RowKit

set_option maxHeartbeats 400000 in
theorem ordered_any (w : World) : Calls Try.prog 14 #[] w fun r w' => r = .returned (.bool true) ∧ Below w.heap.size w w' := by
  go_enter Try.func14, Try.ntmps14
  go_wp2_with fail
  refine (two_any _).mono ?_
  rintro r w1 ⟨rfl, h1, hb⟩
  have hS := evS_full (l := twoL) h1 rfl (by decide)
  go_wp2_with fail
  have hck := before_ok twoL (some ⟨w.heap.size, 0, none⟩) 3 w1 hS (by decide +kernel)
  rw [show twoL.length = 3 from rfl, show befL twoL = [(0, 1), (0, 2)] by decide +kernel] at hck
  refine hck.mono ?_
  clear hck
  rintro r w2 ⟨v, rfl, hown, hk⟩
  have hb2 := hb.trans (hk.mono hb.size)
  have hex : ∃ a c, v = .slice a 2 c ∧ PrS w2 a [(0, 1), (0, 2)] := by
    obtain ⟨a, c, h1, h2⟩ := prS_own hown (by decide)
    exact ⟨a, c, h1, h2⟩
  obtain ⟨a, c, rfl, hP⟩ := hex
  clear hk hb hown hS h1
  go_wp2_with fail
  have hb3 := hb2.alloc hb2.size (.cells (prL [(0, 1), (0, 2)]).toArray 28)
  have hck := eqPr_any [(0, 1), (0, 2)] [(0, 1), (0, 2)] a (some ⟨w2.heap.size, 0, none⟩) c 2 (w2.alloc (.cells (prL [(0, 1), (0, 2)]).toArray 28)) (hP.below ((Below.refl _ _).alloc (Nat.le_refl _) _)) (prS_full (Has.new w2 (prL [(0, 1), (0, 2)]).toArray 28) rfl (by decide))
  rw [show [((0 : Int), (1 : Int)), (0, 2)].length = 2 from rfl] at hck
  refine hck.mono ?_
  clear hck
  rintro r w3 ⟨rfl, hk⟩
  rw [show eqB [((0 : Int), (1 : Int)), (0, 2)] [(0, 1), (0, 2)] = true by decide]
  have hb4 := hb3.trans (hk.mono hb3.size)
  go_wp2
  go_ret
  exact ⟨rfl, hb4⟩
end Go.Proofs.Ytlphmkdlacnnoaa
