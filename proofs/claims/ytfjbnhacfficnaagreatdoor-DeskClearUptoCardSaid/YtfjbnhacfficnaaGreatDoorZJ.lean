/- Joined texts. -/
import Derived.Test.YtfjbnhacfficnaaGreatDoorZH
import Derived.Test.YtfjbnhacfficnaaGreatDoorZB
import Derived.Test.YtfjbnhacfficnaaGreatDoorZF
import Derived.Test.YtfjbnhacfficnaaGreatDoorFsH

/- The closed fact 'detected'. -/
namespace Go.Proofs.YtfjbnhacfficnaaGreatDoor
open Go.RowKit

theorem evS_own_cap {w : World} {base : Nat} {e : TypeId} {v : Value} {l : List Ev} (h : w.ownsRow base e 3 v l.length (evL l)) (hb : l.length < 4611686018427387904) : ∃ a c, v = .slice a l.length c ∧ EvS w a l ∧ l.length ≤ c := by
  obtain ⟨a, c, hv, hS, _⟩ := evS_own h hb
  refine ⟨a, c, hv, hS, ?_⟩
  rcases h.2 with ⟨h1, hn⟩ | ⟨g, cap, cur, h1, _, _, hcap, _⟩
  · omega
  · rw [hv] at h1
    cases h1
    exact hcap
theorem fl_two : fFlags twoL 3 = [⟨2, 0, 1⟩] := by decide +kernel
end Go.Proofs.YtfjbnhacfficnaaGreatDoor

/- Contracts of the fast detector: Run, Slow; the closed fact 'fasted'. -/
namespace Go.Proofs.YtfjbnhacfficnaaGreatDoor
open Go.RowKit

set_option maxRecDepth 100000 in
theorem fastRun_err (l : List Ev) (a : Option Addr) (c : Nat) (w : World) (h : EvS w a l) (he : (played l).2.2 ≠ 0) :
    Calls Tryz.prog 40 #[.slice a l.length c] w fun r w' => r = .returned (.tuple #[.slice none 0 0, .int .i64 (played l).2.2]) ∧ Below w.heap.size w w' := by
  go_enter Tryz.func40, Tryz.ntmps40
  go_wp2_with fail
  refine (qrun_err l a c _ h he).mono ?_
  rintro r w1 ⟨rfl, hb⟩
  go_wp2
  go_ret2
  exact ⟨rfl, hb⟩
set_option maxRecDepth 100000 in
theorem fastRun_ok (l : List Ev) (a : Option Addr) (c : Nat) (w : World) (h : EvS w a l) (he : (played l).2.2 = 0) :
    Calls Tryz.prog 40 #[.slice a l.length c] w (FlagPost (qFlags l l.length) w) := by
  go_enter Tryz.func40, Tryz.ntmps40
  go_wp2_with fail
  refine (qrun_ok l a c _ h he).mono ?_
  rintro r w1 ⟨v, rfl, hown, hb⟩
  go_wp2
  go_ret2
  exact ⟨v, rfl, hown, hb⟩
theorem ql_two : qFlags twoL 3 = [⟨2, 0, 1⟩] := by decide +kernel
end Go.Proofs.YtfjbnhacfficnaaGreatDoor
