/- A program that has a lock at each access never races. No program. -/
import Derived.Test.YtoohconipcleiaaPgK
import Derived.Test.YtoohconipcleiaaMO
namespace Go.Proofs.Ytoohconipcleiaa

theorem held_races {l : List Ev} {L : Nat} (hp : (played l).2.2 = 0) (h : HasL l L) : raceL l = [] := by
  refine raceL_nil fun i j hij hj => ?_
  cases hr : raceB l i j
  · rfl
  · obtain ⟨ai, aj, _, hR, _⟩ := raceB_iff.1 hr
    have := held_ordered hp hij hj (h i (by omega) (isAccR_iff.1 ai)) (h j hj (isAccR_iff.1 aj))
    rw [this] at hR; cases hR
end Go.Proofs.Ytoohconipcleiaa
