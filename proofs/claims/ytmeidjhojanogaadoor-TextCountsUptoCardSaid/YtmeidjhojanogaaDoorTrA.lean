/- Contracts of package trace: many, IsEvent. -/
import Derived.Test.YtmeidjhojanogaaDoorChecked
import Derived.Test.YtmeidjhojanogaaDoorTr
namespace Go.Proofs.YtmeidjhojanogaaDoor
open Go.RowKit

set_option maxHeartbeats 400000 in
theorem many_any (k : Int) (w : World) : Calls Tryd.prog 44 #[.int .i64 k] w fun e w' => e = .returned (.int .i64 (manyOf k)) ∧ w' = w := by
  rcases (by omega : k = 1 ∨ k = 2 ∨ k = 3 ∨ k = 4 ∨ k = 5 ∨ k = 6 ∨ k = 7 ∨ k = 8 ∨ (k ≠ 1 ∧ k ≠ 2 ∧ k ≠ 3 ∧ k ≠ 4 ∧ k ≠ 5 ∧ k ≠ 6 ∧ k ≠ 7 ∧ k ≠ 8)) with rfl | rfl | rfl | rfl | rfl | rfl | rfl | rfl | ⟨h1, h2, h3, h4, h5, h6, h7, h8⟩
  case inr.inr.inr.inr.inr.inr.inr.inr =>
    have e1 : (k == 1) = false := by simpa using h1
    have e2 : (k == 2) = false := by simpa using h2
    have e3 : (k == 3) = false := by simpa using h3
    have e4 : (k == 4) = false := by simpa using h4
    have e5 : (k == 5) = false := by simpa using h5
    have e6 : (k == 6) = false := by simpa using h6
    have e7 : (k == 7) = false := by simpa using h7
    have e8 : (k == 8) = false := by simpa using h8
    have hm : manyOf k = 0 := by simp [manyOf, h1, h2, h3, h4, h5, h6, h7, h8]
    rw [hm]
    clear h1 h2 h3 h4 h5 h6 h7 h8 hm
    go_enter Tryd.func44, Tryd.ntmps44
    go_wp2
    go_ret
    exact ⟨rfl, rfl⟩
  all_goals
    go_enter Tryd.func44, Tryd.ntmps44
    go_wp2
    go_ret
    exact ⟨rfl, rfl⟩

set_option maxHeartbeats 1000000 in
theorem isEvent_any (e : Ev) (w : World) : Calls Tryd.prog 26 #[evV e] w fun r w' => r = .returned (.bool (isEv e)) ∧ Below w.heap.size w w' := by
  have h0 := Has.new w (evC e) 30
  have hb : Below w.heap.size w (w.alloc (.cells (evC e) 30)) := (Below.refl _ _).alloc (by simp) _
  have c0 : (w.alloc (.cells (evC e) 30)).cell? ⟨w.heap.size, 0, none⟩ = some (.int .i64 e.k) := h0.cell rfl
  have c1 : (w.alloc (.cells (evC e) 30)).cell? ⟨w.heap.size, 1, none⟩ = some (.int .i64 e.t) := h0.cell rfl
  have c2 : (w.alloc (.cells (evC e) 30)).cell? ⟨w.heap.size, 2, none⟩ = some (.int .i64 e.o) := h0.cell rfl
  rcases (by omega : e.t < 0 ∨ (0 ≤ e.t ∧ 6 ≤ e.t) ∨ (0 ≤ e.t ∧ e.t < 6 ∧ e.o < 0) ∨ (0 ≤ e.t ∧ e.t < 6 ∧ 0 ≤ e.o)) with h | ⟨h, h1⟩ | ⟨h, h1, h2⟩ | ⟨h, h1, h2⟩
  · have hr : isEv e = false := by simp [isEv]; omega
    have d : decide (0 ≤ e.t) = false := by simp; omega
    rw [hr]
    go_enter Tryd.func26, Tryd.ntmps26
    go_wp2
    go_quiet (fail)
    go_wp2
    go_ret
    exact ⟨rfl, below_drewN hb _⟩
  · have hr : isEv e = false := by simp [isEv]; omega
    have d : decide (e.t < 6) = false := by simp; omega
    rw [hr]
    go_enter Tryd.func26, Tryd.ntmps26
    go_wp2
    go_quiet (fail)
    go_wp2
    go_ret
    exact ⟨rfl, below_drewN hb _⟩
  · have hr : isEv e = false := by simp [isEv]; omega
    have d : decide (0 ≤ e.o) = false := by simp; omega
    rw [hr]
    go_enter Tryd.func26, Tryd.ntmps26
    go_wp2
    go_quiet (fail)
    go_wp2
    go_ret
    exact ⟨rfl, below_drewN hb _⟩
  · have hr : isEv e = decide (e.o < manyOf e.k) := by simp [isEv, h, h1, h2]
    rw [hr]
    clear hr
    go_enter Tryd.func26, Tryd.ntmps26
    go_wp2
    go_quiet ((go_at_call 44; exact Calls.quiet_of_same (many_any _ _)))
    go_wp2
    go_ret
    exact ⟨rfl, below_drewN hb _⟩
end Go.Proofs.YtmeidjhojanogaaDoor
