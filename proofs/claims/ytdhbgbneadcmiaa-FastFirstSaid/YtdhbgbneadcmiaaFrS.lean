/- Contracts of the fast detector: Run, Slow; the closed fact 'fasted'. -/
import Derived.Test.YtdhbgbneadcmiaaFsH
import Derived.Test.YtdhbgbneadcmiaaFrl
import Derived.Test.YtdhbgbneadcmiaaEqF
import Derived.Test.YtdhbgbneadcmiaaDet
namespace Go.Proofs.Ytdhbgbneadcmiaa
open Go.RowKit

set_option maxRecDepth 100000 in
theorem fastRun_err (l : List Ev) (a : Option Addr) (c : Nat) (w : World) (h : EvS w a l) (he : (played l).2.2 ≠ 0) :
    Calls Try.prog 26 #[.slice a l.length c] w fun r w' => r = .returned (.tuple #[.slice none 0 0, .int .i64 (played l).2.2]) ∧ Below w.heap.size w w' := by
  go_enter Try.func26, Try.ntmps26
  go_wp2_with fail
  refine (qrun_err l a c _ h he).mono ?_
  rintro r w1 ⟨rfl, hb⟩
  go_wp2
  go_ret2
  exact ⟨rfl, hb⟩
set_option maxRecDepth 100000 in
theorem fastRun_ok (l : List Ev) (a : Option Addr) (c : Nat) (w : World) (h : EvS w a l) (he : (played l).2.2 = 0) :
    Calls Try.prog 26 #[.slice a l.length c] w (FlagPost (qFlags l l.length) w) := by
  go_enter Try.func26, Try.ntmps26
  go_wp2_with fail
  refine (qrun_ok l a c _ h he).mono ?_
  rintro r w1 ⟨v, rfl, hown, hb⟩
  go_wp2
  go_ret2
  exact ⟨v, rfl, hown, hb⟩
theorem ql_two : qFlags twoL 3 = [⟨2, 0, 1⟩] := by decide +kernel
set_option maxHeartbeats 400000 in
theorem fasted_any (w : World) : Calls Try.prog 25 #[] w fun r w' => r = .returned (.bool true) ∧ Below w.heap.size w w' := by
  go_enter Try.func25, Try.ntmps25
  go_wp2_with fail
  refine (two_any _).mono ?_
  rintro r w1 ⟨rfl, h1, hb⟩
  have hS := evS_full (l := twoL) h1 rfl (by decide)
  go_wp2_with fail
  have hck := fastRun_ok twoL (some ⟨w.heap.size, 0, none⟩) 3 w1 hS (by decide +kernel)
  rw [show twoL.length = 3 from rfl, ql_two] at hck
  refine hck.mono ?_
  clear hck
  rintro r w2 ⟨v, rfl, hown, hk⟩
  have hb2 := hb.trans (hk.mono hb.size)
  have hex : ∃ a c, v = .slice a 1 c ∧ EvS w2 a [⟨2, 0, 1⟩] := by
    obtain ⟨a, c, h1, h2, _⟩ := evS_own hown (by decide)
    exact ⟨a, c, h1, h2⟩
  obtain ⟨a, c, rfl, hP⟩ := hex
  clear hk hb hown hS h1
  go_wp2_with fail
  have hb3 := hb2.alloc hb2.size (.cells (evL [⟨2, 0, 1⟩]).toArray 51)
  have hck := eqFl_any [⟨2, 0, 1⟩] [⟨2, 0, 1⟩] a (some ⟨w2.heap.size, 0, none⟩) c 1 (w2.alloc (.cells (evL [⟨2, 0, 1⟩]).toArray 51)) (hP.below ((Below.refl _ _).alloc (Nat.le_refl _) _)) (evS_full (Has.new w2 (evL [⟨2, 0, 1⟩]).toArray 51) rfl (by decide))
  rw [show ([⟨2, 0, 1⟩] : List Ev).length = 1 from rfl] at hck
  refine hck.mono ?_
  clear hck
  rintro r w3 ⟨rfl, hk⟩
  rw [show eqB ([⟨2, 0, 1⟩] : List Ev) [⟨2, 0, 1⟩] = true by decide]
  have hb4 := hb3.trans (hk.mono hb3.size)
  go_wp2
  go_ret
  exact ⟨rfl, hb4⟩
end Go.Proofs.Ytdhbgbneadcmiaa
