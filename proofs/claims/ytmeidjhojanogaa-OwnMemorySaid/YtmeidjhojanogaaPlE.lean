/- A valid trace: its length and its events. -/
import Derived.Test.YtmeidjhojanogaaTrQ
namespace Go.Proofs.Ytmeidjhojanogaa

theorem played_evs {l : List Ev} (h : (played l).2.2 = 0) : l.length ≤ 80 ∧ ∀ e ∈ l, isEv e = true := by
  have hl80 : l.length ≤ 80 := by
    by_cases hl : l.length ≤ 80
    · exact hl
    · have := played_large.2 (show 80 < l.length by omega); omega
  refine ⟨hl80, ?_⟩
  rw [played_small hl80] at h
  revert h
  generalize St.first = s
  generalize 0 = i
  clear hl80
  induction l generalizing s i with
  | nil => intro _ e he; simp at he
  | cons x l ih =>
    intro h e he
    simp only [playL] at h
    by_cases hx : err s x = 0
    · rw [if_pos hx] at h
      rcases List.mem_cons.1 he with rfl | he
      · exact (err0 hx).1
      · exact ih _ _ h e he
    · rw [if_neg hx] at h; exact absurd h hx
end Go.Proofs.Ytmeidjhojanogaa
