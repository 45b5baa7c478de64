/- The closed fact 'detected'. -/
import Derived.Test.YtdhbgbneadcmiaaFrl
import Derived.Test.YtdhbgbneadcmiaaEqF
import Derived.Test.YtdhbgbneadcmiaaRacA
namespace Go.Proofs.Ytdhbgbneadcmiaa
open Go.RowKit

theorem evS_own_cap {w : World} {base : Nat} {e : TypeId} {v : Value} {l : List Ev} (h : w.ownsRow base e 3 v l.length (evL l)) (hb : l.length < 4611686018427387904) : ∃ a c, v = .slice a l.length c ∧ EvS w a l ∧ l.length ≤ c := by
  obtain ⟨a, c, hv, hS, _⟩ := evS_own h hb
  refine ⟨a, c, hv, hS, ?_⟩
  rcases h.2 with ⟨h1, hn⟩ | ⟨g, cap, cur, h1, _, _, hcap, _⟩
  · omega
  · rw [hv] at h1
    cases h1
    exact hcap
theorem fl_two : fFlags twoL 3 = [⟨2, 0, 1⟩] := by decide +kernel
set_option maxHeartbeats 400000 in
theorem detected_any (w : World) : Calls Try.prog 23 #[] w fun r w' => r = .returned (.bool true) ∧ Below w.heap.size w w' := by
  go_enter Try.func23, Try.ntmps23
  go_wp2_with fail
  refine (two_any _).mono ?_
  rintro r w1 ⟨rfl, h1, hb⟩
  have hS := evS_full (l := twoL) h1 rfl (by decide)
  go_wp2_with fail
  have hck := fullRun_ok twoL (some ⟨w.heap.size, 0, none⟩) 3 w1 hS (by decide +kernel)
  rw [show twoL.length = 3 from rfl, fl_two] at hck
  refine hck.mono ?_
  clear hck
  rintro r w2 ⟨v, rfl, hown, hk⟩
  have hb2 := hb.trans (hk.mono hb.size)
  have hex : ∃ a c, v = .slice a 1 c ∧ EvS w2 a [⟨2, 0, 1⟩] := by
    obtain ⟨a, c, h1, h2, _⟩ := evS_own hown (by decide)
    exact ⟨a, c, h1, h2⟩
  obtain ⟨a, c, rfl, hP⟩ := hex
  clear hk hb hown hS h1
  go_wp2_with fail
  have hb3 := hb2.alloc hb2.size (.cells (evL [⟨2, 0, 1⟩]).toArray 51)
  have hck := eqFl_any [⟨2, 0, 1⟩] [⟨2, 0, 1⟩] a (some ⟨w2.heap.size, 0, none⟩) c 1 (w2.alloc (.cells (evL [⟨2, 0, 1⟩]).toArray 51)) (hP.below ((Below.refl _ _).alloc (Nat.le_refl _) _)) (evS_full (Has.new w2 (evL [⟨2, 0, 1⟩]).toArray 51) rfl (by decide))
  rw [show ([⟨2, 0, 1⟩] : List Ev).length = 1 from rfl] at hck
  refine hck.mono ?_
  clear hck
  rintro r w3 ⟨rfl, hk⟩
  rw [show eqB ([⟨2, 0, 1⟩] : List Ev) [⟨2, 0, 1⟩] = true by decide]
  have hb4 := hb3.trans (hk.mono hb3.size)
  go_wp2
  go_ret
  exact ⟨rfl, hb4⟩
end Go.Proofs.Ytdhbgbneadcmiaa
