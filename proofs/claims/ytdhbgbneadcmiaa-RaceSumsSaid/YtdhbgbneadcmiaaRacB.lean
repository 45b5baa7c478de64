/- The closed fact 'raced'. -/
import Derived.Test.YtdhbgbneadcmiaaRacA
import Derived.Test.YtdhbgbneadcmiaaEqR
namespace Go.Proofs.Ytdhbgbneadcmiaa
open Go.RowKit

set_option maxHeartbeats 400000 in
theorem raced_any (w : World) : Calls Try.prog 12 #[] w fun r w' => r = .returned (.bool true) ∧ Below w.heap.size w w' := by
  go_enter Try.func12, Try.ntmps12
  go_wp2_with fail
  refine (two_any _).mono ?_
  rintro r w1 ⟨rfl, h1, hb⟩
  have hS := evS_full (l := twoL) h1 rfl (by decide)
  go_wp2_with fail
  have hck := all_ok twoL (some ⟨w.heap.size, 0, none⟩) 3 w1 hS (by decide +kernel)
  rw [show twoL.length = 3 from rfl, show raceL twoL = [⟨1, 2, 0, 1⟩] by decide +kernel] at hck
  refine hck.mono ?_
  clear hck
  rintro r w2 ⟨v, rfl, hown, hk⟩
  have hb2 := hb.trans (hk.mono hb.size)
  have hex : ∃ a c, v = .slice a 1 c ∧ RcS w2 a [⟨1, 2, 0, 1⟩] := by
    obtain ⟨a, c, h1, h2⟩ := rcS_own hown (by decide)
    exact ⟨a, c, h1, h2⟩
  obtain ⟨a, c, rfl, hP⟩ := hex
  clear hk hb hown hS h1
  go_wp2_with fail
  have hb3 := hb2.alloc hb2.size (.cells (rcL [⟨1, 2, 0, 1⟩]).toArray 32)
  have hck := eqRc_any [⟨1, 2, 0, 1⟩] [⟨1, 2, 0, 1⟩] a (some ⟨w2.heap.size, 0, none⟩) c 1 (w2.alloc (.cells (rcL [⟨1, 2, 0, 1⟩]).toArray 32)) (hP.below ((Below.refl _ _).alloc (Nat.le_refl _) _)) (rcS_full (Has.new w2 (rcL [⟨1, 2, 0, 1⟩]).toArray 32) rfl (by decide))
  rw [show ([⟨1, 2, 0, 1⟩] : List Rc).length = 1 from rfl] at hck
  refine hck.mono ?_
  clear hck
  rintro r w3 ⟨rfl, hk⟩
  rw [show eqB ([⟨1, 2, 0, 1⟩] : List Rc) [⟨1, 2, 0, 1⟩] = true by decide]
  have hb4 := hb3.trans (hk.mono hb3.size)
  go_wp2
  go_ret
  exact ⟨rfl, hb4⟩
end Go.Proofs.Ytdhbgbneadcmiaa
