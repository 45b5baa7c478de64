/- Contracts of package order: directly. -/
import Derived.Test.YtmeidjhojanogaaChecked
import Derived.Test.YtmeidjhojanogaaOrd
namespace Go.Proofs.Ytmeidjhojanogaa
open Go.RowKit

set_option maxHeartbeats 8000000 in
theorem directly_any (a b : Ev) (w : World) : Calls Try.prog 54 #[evV a, evV b] w fun r w' => r = .returned (.bool (dirE a b)) ∧ Below w.heap.size w w' := by
  obtain ⟨k, t, o⟩ := a
  obtain ⟨k', t', o'⟩ := b
  go_enter Try.func54, Try.ntmps54
  go_wp2
  all_goals
    go_ret
    refine ⟨ret_bool ?_, ((Below.refl _ _).alloc (by simp) _).alloc (by simp) _⟩
    rw [Bool.eq_iff_iff, dirE_iff]
    simp
    simp only [beq_iff_eq, beq_eq_false_iff_ne, ne_eq] at *
    omega
end Go.Proofs.Ytmeidjhojanogaa
