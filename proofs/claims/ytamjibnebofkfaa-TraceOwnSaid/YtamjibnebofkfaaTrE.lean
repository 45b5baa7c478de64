/- The closed fact 'traced'. -/
import Derived.Test.YtamjibnebofkfaaTrD
namespace Go.Proofs.Ytamjibnebofkfaa
open Go.RowKit

set_option maxHeartbeats 400000 in
theorem traced_any (w : World) : Calls Try.prog 23 #[] w fun r w' => r = .returned (.bool true) ∧ Below w.heap.size w w' := by
  obtain ⟨i0, hi, hz0, hz1, hz2⟩ := info_parts infoE
  go_enter Try.func23, Try.ntmps23
  go_wp2_with fail
  refine (two_any _).mono ?_
  rintro r w1 ⟨rfl, h1, hb⟩
  have hown := own_full (base := w.heap.size) (size := 3) (n := 3) h1 (Nat.le_refl _) rfl (by decide)
  go_wp2_with (at_builtin; refine wpList_append_own _ rfl _ _ 22 rfl w.heap.size 34 i0 (evV ⟨0, 0, 0⟩) 3 24 Try.underlying22 hi hz0 hz1 hz2 rfl (by decide) _ _ _ rfl (hown.alloc _) ⟨w1.heap.size, 0, none⟩ 1 1 (evL [⟨4, 0, 0⟩]) rfl rfl ?c1 ?c2 ?c3 ?c4 ?c5 ?_)
  case c1 => exact fun j u hu => (Has.new w1 (evL [⟨4, 0, 0⟩]).toArray 34).cell_add (by simpa using hu)
  case c2 => intro u hu; simp [evL] at hu; rcases hu with rfl | rfl <;> rfl
  case c3 => decide
  case c4 => decide
  case c5 => simp; have := hb.size; omega
  intro v' w2 hown2 hgrow _
  have hb2 := (hb.alloc hb.size (.cells (evL [⟨4, 0, 0⟩]).toArray 34)).grown hgrow (by simp; have := hb.size; omega) (fun j hj => (hown.lt j hj).1)
  have hex : ∃ a' c', v' = .slice a' 4 c' ∧ EvS w2 a' (twoL ++ [(⟨4, 0, 0⟩ : Ev)]) := by
    obtain ⟨a', c', h1, h2, _⟩ := evS_own (l := twoL ++ [⟨4, 0, 0⟩]) (by rw [evL_append]; exact hown2) (by decide)
    exact ⟨a', c', h1, h2⟩
  obtain ⟨a', c', hv, hS⟩ := hex
  rw [hv]
  clear hown2 hgrow hown h1 hb hv
  go_wp2_with fail
  have hck := check_any (twoL ++ [(⟨4, 0, 0⟩ : Ev)]) a' c' w2 hS
  rw [show (twoL ++ [(⟨4, 0, 0⟩ : Ev)]).length = 4 from rfl] at hck
  refine hck.mono ?_
  clear hck
  rintro r w3 ⟨rfl, hk⟩
  rw [show (played (twoL ++ [(⟨4, 0, 0⟩ : Ev)])).2.1 = 3 by decide +kernel, show (played (twoL ++ [(⟨4, 0, 0⟩ : Ev)])).2.2 = 10 by decide +kernel]
  have hb3 := hb2.trans (hk.mono hb2.size)
  clear hk hb2 hS
  go_wp2_with fail
  refine (two_any _).mono ?_
  rintro r w4 ⟨rfl, h1, hk⟩
  have hb4 := hb3.trans (hk.mono hb3.size)
  clear hk hb3
  have hS := evS_full (l := twoL) h1 rfl (by decide)
  clear h1
  go_wp2_with fail
  have hck := threads_ok twoL (some ⟨w3.heap.size, 0, none⟩) 3 w4 hS (by decide +kernel)
  rw [show twoL.length = 3 from rfl] at hck
  refine hck.mono ?_
  clear hck
  rintro r w5 ⟨v, rfl, hown, hk⟩
  have hb5 := hb4.trans (hk.mono hb4.size)
  rw [show thrL (played twoL).1 6 = [0, 1] by decide +kernel] at hown
  have hex : ∃ a' c', v = .slice a' 2 c' ∧ IntS w5 a' [0, 1] := by
    obtain ⟨a', c', h1, h2, _⟩ := intS_own hown (by decide)
    exact ⟨a', c', h1, h2⟩
  obtain ⟨a1, c1, hv, hI⟩ := hex
  rw [hv]
  clear hk hb4 hown hv hS
  go_wp2_with fail
  have hb6 := hb5.alloc hb5.size (.cells (ints [0, 1]).toArray 3)
  have hck := eqInt_any [0, 1] [0, 1] a1 (some ⟨w5.heap.size, 0, none⟩) c1 2 (w5.alloc (.cells (ints [0, 1]).toArray 3)) (hI.below ((Below.refl _ _).alloc (Nat.le_refl _) _)) (intS_full (Has.new w5 (ints [0, 1]).toArray 3) rfl (by decide))
  rw [show [(0 : Int), 1].length = 2 from rfl] at hck
  refine hck.mono ?_
  clear hck
  rintro r w6 ⟨rfl, rfl⟩
  rw [show eqB [(0 : Int), 1] [0, 1] = true by decide]
  go_wp2
  go_ret
  exact ⟨rfl, hb6⟩
end Go.Proofs.Ytamjibnebofkfaa
