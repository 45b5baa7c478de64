/- The closed fact 'guarded'. -/
import Derived.Test.YtfaoehpmkhmdhaaGdG
import Derived.Test.YtfaoehpmkhmdhaaEqF
namespace Go.Proofs.Ytfaoehpmkhmdhaa
open Go.RowKit

theorem gWs_two : gWs twoL = [⟨2, 0, 0⟩] := by decide +kernel
theorem evS_nil (w : World) : EvS w none [] := ⟨by simp, .inl rfl⟩
set_option maxRecDepth 100000 in
set_option maxHeartbeats 4000000 in
theorem guarded_any (w : World) : Calls Try.prog 15 #[] w fun r w' => r = .returned (.bool true) ∧ Below w.heap.size w w' := by
  go_enter Try.func15, Try.ntmps15
  go_wp2_with fail
  refine (two_any _).mono ?_
  rintro r w1 ⟨rfl, h1, hb⟩
  have hS := evS_full (l := twoL) h1 rfl (by decide)
  go_wp2_with fail
  have hck := warns_any twoL (some ⟨w.heap.size, 0, none⟩) 3 w1 hS
  unfold WarnsPost at hck
  rw [show twoL.length = 3 from rfl, gWs_two, show (played twoL).2.2 = 0 by decide +kernel] at hck
  refine hck.mono ?_
  clear hck
  rintro r w2 ⟨a, c, rfl, hP, _, hk⟩
  have hb2 := hb.trans (hk.mono hb.size)
  clear hk hb hS h1
  go_wp2_with fail
  have hck := common_ok [] none 0 0 w2 (evS_nil w2) (by decide +kernel) (by decide)
  rw [show (coL [] ((0 : Nat) : Int) ([] : List Ev).length : Int) = 31 by decide +kernel, show ([] : List Ev).length = 0 from rfl] at hck
  refine hck.mono ?_
  clear hck
  rintro r w3 ⟨rfl, hk⟩
  have hP3 := hP.below hk
  have hb3 := hb2.trans (hk.mono hb2.size)
  clear hk hb2 hP
  go_wp2_with fail
  have hb4 := hb3.alloc hb3.size (.cells (evL [⟨2, 0, 0⟩]).toArray 36)
  have hck := eqFl_any [⟨2, 0, 0⟩] [⟨2, 0, 0⟩] a (some ⟨w3.heap.size, 0, none⟩) c 1 (w3.alloc (.cells (evL [⟨2, 0, 0⟩]).toArray 36)) (hP3.below ((Below.refl _ _).alloc (Nat.le_refl _) _)) (evS_full (Has.new w3 (evL [⟨2, 0, 0⟩]).toArray 36) rfl (by decide))
  rw [show ([⟨2, 0, 0⟩] : List Ev).length = 1 from rfl] at hck
  refine hck.mono ?_
  clear hck
  rintro r w4 ⟨rfl, hk⟩
  rw [show eqB ([⟨2, 0, 0⟩] : List Ev) [⟨2, 0, 0⟩] = true by decide]
  have hb5 := hb4.trans (hk.mono hb4.size)
  go_wp2
  go_ret
  exact ⟨rfl, hb5⟩
end Go.Proofs.Ytfaoehpmkhmdhaa
