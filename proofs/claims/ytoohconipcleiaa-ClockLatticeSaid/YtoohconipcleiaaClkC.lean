/- Contracts of package clock: Compare, Tick, Of, Seen. -/
import Derived.Test.YtoohconipcleiaaMJ
namespace Go.Proofs.Ytoohconipcleiaa
open Go.RowKit

/-- How two clocks lie. -/
def ccmp (f g : Nat → Int) : Int := if ceq f g then 0 else if cle f g then 1 else if cle g f then 2 else 3

set_option maxHeartbeats 1000000 in
theorem compare_any (f g : Nat → Int) (w : World) :
    Calls Try.prog 66 #[clkV f, clkV g] w fun e w' => e = .returned (.int .i64 (ccmp f g)) ∧ Below w.heap.size w w' := by
  have heq := eql_clk f g
  by_cases h1 : ceq f g = true
  · go_enter Try.func66, Try.ntmps66
    go_wp2
    go_ret
    exact ⟨ret_int (by simp [ccmp, h1]), ((Below.refl _ w).alloc (by simp) _).alloc (by simp) _⟩
  · have e1 : ceq f g = false := by simpa using h1
    by_cases h2 : cle f g = true
    · go_enter Try.func66, Try.ntmps66
      go_wp2_with fail
      refine (within_any f g _).mono ?_
      rintro e w' ⟨rfl, hk⟩
      go_wp2
      go_ret
      exact ⟨ret_int (by simp [ccmp, e1, h2]), (((Below.refl _ w).alloc (by simp) _).alloc (by simp) _).trans (hk.mono (by simp; omega))⟩
    · have e2 : cle f g = false := by simpa using h2
      by_cases h3 : cle g f = true
      all_goals
        try (have e3 : cle g f = false := by simpa using h3)
        go_enter Try.func66, Try.ntmps66
        go_wp2_with fail
        refine (within_any f g _).mono ?_
        rintro e w' ⟨rfl, hk⟩
        obtain ⟨hc, hf⟩ := bcell hk
        go_wp2_with fail
        refine (within_any g f _).mono ?_
        rintro e w'' ⟨rfl, hk2⟩
        go_wp2
        go_ret
        exact ⟨ret_int (by simp [ccmp, e1, e2, h3]), ((((Below.refl _ w).alloc (by simp) _).alloc (by simp) _).trans (hk.mono (by simp; omega))).trans (hk2.mono (by have := hk.size; simp at this; omega))⟩

end Go.Proofs.Ytoohconipcleiaa
