/- The closed fact 'swapped'. -/
import Derived.Test.YtmeidjhojanogaaOwS
import Derived.Deep.RegionHeld3
namespace Go.Proofs.Ytmeidjhojanogaa
open Go.RowKit

def swL : List Ev := [⟨5, 0, 1⟩, ⟨1, 0, 1⟩, ⟨1, 1, 0⟩]
set_option maxRecDepth 100000 in
set_option maxHeartbeats 2000000 in
theorem swapped_any (w : World) : Calls Try.prog 4 #[] w fun r w' => r = .returned (.bool true) ∧ Below w.heap.size w w' := by
  have hN := Has.new w (evL swL).toArray 26
  have hb := (Below.refl w.heap.size w).alloc (Nat.le_refl _) (.cells (evL swL).toArray 26)
  have hS := evS_full (l := swL) hN rfl (by decide)
  have hck := swap_ok swL (some ⟨w.heap.size, 0, none⟩) 3 1 _ hS (by decide +kernel) (by decide) (by decide +kernel)
  rw [show swL.length = 3 from rfl] at hck
  have HCK := Lib.hid hck
  clear hck
  go_enter Try.func4, Try.ntmps4
  go_wp2_with fail
  refine HCK.out.mono ?_
  clear HCK
  rintro r w1 ⟨a, c, rfl, hM, hc, hk⟩
  replace hM := hM.evs
  rw [show sw swL 1 = [⟨5, 0, 1⟩, ⟨1, 1, 0⟩, ⟨1, 0, 1⟩] by decide] at hM hc ⊢
  rw [show ([⟨5, 0, 1⟩, ⟨1, 1, 0⟩, ⟨1, 0, 1⟩] : List Ev).length = 3 from rfl] at hc ⊢
  replace hS := hS.below hk
  replace hb := hb.trans (hk.mono hb.size)
  obtain ⟨b1, o1, rfl⟩ : ∃ b o, a = some ⟨b, o, none⟩ := by
    obtain ⟨b, o, h, _⟩ := hM.at (i := 1) (by decide)
    exact ⟨b, o, h⟩
  have hs : ∀ W, Below w1.heap.size w1 W → (W.cell? ⟨b1, o1 + 3, none⟩ = some (.int .i64 1) ∧ W.cell? ⟨b1, o1 + 3 + 1, none⟩ = some (.int .i64 1) ∧ W.cell? ⟨b1, o1 + 3 + 2, none⟩ = some (.int .i64 0) ∧ W.cell? ⟨w.heap.size, 3, none⟩ = some (.int .i64 1) ∧ W.cell? ⟨w.heap.size, 4, none⟩ = some (.int .i64 0) ∧ W.cell? ⟨w.heap.size, 5, none⟩ = some (.int .i64 1) ∧ W.cell? ⟨w.heap.size, 6, none⟩ = some (.int .i64 1) ∧ W.cell? ⟨w.heap.size, 7, none⟩ = some (.int .i64 1) ∧ W.cell? ⟨w.heap.size, 8, none⟩ = some (.int .i64 0)) := by
    intro W hW
    obtain ⟨b', o', hbo, d0, d1, d2⟩ := (hM.below hW).at (i := 1) (by decide)
    cases hbo
    obtain ⟨b', o', hbo, e0, e1, e2⟩ := (hS.below hW).at (i := 1) (by decide)
    cases hbo
    obtain ⟨b', o', hbo, f0, f1, f2⟩ := (hS.below hW).at (i := 2) (by decide)
    cases hbo
    exact ⟨d0, d1, d2, e0, e1, e2, f0, f1, f2⟩
  have HS := Lib.hid hs
  have hq : ∀ W, (binOp .eql 26 (evV ⟨1, 1, 0⟩) (evV ⟨1, 1, 0⟩)).run Try.prog W = .ok (.bool true) W := fun W => by rw [eql_ev]; rfl
  have hap := apart_any ⟨1, 0, 1⟩ ⟨1, 1, 0⟩
  rw [show apartB ⟨1, 0, 1⟩ ⟨1, 1, 0⟩ = true by decide +kernel] at hap
  have HAP := Lib.hid hap
  clear hap
  clear hk hM hS hN hs
  have hb0 := (Below.refl w1.heap.size w1).drew
  obtain ⟨d0, d1, d2, e0, e1, e2, f0, f1, f2⟩ := HS.out _ (Below.refl _ _)
  go_upto_region 3 with fail
  go_region_held3 (fun W => Below w1.heap.size w1 W ∧ (W.cell? ⟨b1, o1 + 3, none⟩ = some (.int .i64 1) ∧ W.cell? ⟨b1, o1 + 3 + 1, none⟩ = some (.int .i64 1) ∧ W.cell? ⟨b1, o1 + 3 + 2, none⟩ = some (.int .i64 0) ∧ W.cell? ⟨w.heap.size, 3, none⟩ = some (.int .i64 1) ∧ W.cell? ⟨w.heap.size, 4, none⟩ = some (.int .i64 0) ∧ W.cell? ⟨w.heap.size, 5, none⟩ = some (.int .i64 1) ∧ W.cell? ⟨w.heap.size, 6, none⟩ = some (.int .i64 1) ∧ W.cell? ⟨w.heap.size, 7, none⟩ = some (.int .i64 1) ∧ W.cell? ⟨w.heap.size, 8, none⟩ = some (.int .i64 0))) (first | exact ⟨hb0, HS.out _ hb0⟩)
    (first | (go_at_call 11; refine (HAP.out _).mono ?_; rintro r w' ⟨rfl, hk⟩; replace hb0 := hb0.trans (hk.mono hb0.size); clear hk))
  all_goals
    have hb3 := hb.trans (hb0.mono hb.size)
    go_wp2
    go_ret
    exact ⟨rfl, hb3⟩
end Go.Proofs.Ytmeidjhojanogaa
