/- The closed fact 'ran'. -/
import Derived.Test.YthfeakfakjecoaaPgH
namespace Go.Proofs.Ythfeakfakjecoaa
open Go.RowKit

/-- The program of the closed fact. -/
def ranP : List (List Ev) := [[⟨3, 0, 5⟩, ⟨2, 2, 0⟩]]
theorem ran_facts : errR ranP 2 = 0 ∧ (runP ranP [0, 0]).2 = [⟨2, 0, 2⟩] ∧ (runP ranP [0, 0]).1.mem 2 = 5 ∧ doneB ranP (runP ranP [0, 0]).1 = true := by decide
set_option maxRecDepth 100000 in
set_option maxHeartbeats 8000000 in
theorem ran_any (w : World) : Calls Try.prog 15 #[] w fun r w' => r = .returned (.bool true) ∧ Below w.heap.size w w' := by
  obtain ⟨z1, z2, z3, z4⟩ := ran_facts
  have HR := Lib.hid z1
  have HV := Lib.hid (show evR ranP [0, 0] = [⟨2, 0, 2⟩] by unfold evR; rw [if_pos (show errR ranP [(0 : Int), 0].length = 0 from z1)]; exact z2)
  have HE := Lib.hid (show endR ranP [0, 0] = endC (runP ranP [0, 0]).1 true (stuckB ranP (runP ranP [0, 0]).1) by unfold endR; rw [if_pos (show errR ranP [(0 : Int), 0].length = 0 from z1), z4])
  have HM := Lib.hid z3
  clear z1 z2 z3 z4
  go_enter Try.func15, Try.ntmps15
  go_wp2_with fail
  generalize hW : World.alloc (World.alloc (World.alloc w _) _) _ = W
  have hA : Has W w.heap.size (evL [⟨3, 0, 5⟩, ⟨2, 2, 0⟩]).toArray 42 := by rw [← hW]; exact (((Has.new w _ _).alloc _).alloc _).to rfl
  have hB : Has W (w.heap.size + 1) #[.slice (some ⟨w.heap.size, 0, none⟩) 2 2] 40 := by rw [← hW]; exact ((Has.new (w.alloc _) _ _).at (by simp)).alloc _
  have hI : Has W (w.heap.size + 1 + 1) (ints [0, 0]).toArray 3 := by rw [← hW]; exact ((Has.new ((w.alloc _).alloc _) _ _).at (by simp)).to rfl
  have hb : Below w.heap.size w W := by rw [← hW]; exact (((Below.refl _ _).alloc (Nat.le_refl _) _).alloc (by simp) _).alloc (by simp; omega) _
  clear hW
  have hP : PgS W (some ⟨w.heap.size + 1, 0, none⟩) ranP := ⟨by decide, .inr ⟨_, 0, rfl, fun t ht => by
    obtain rfl : t = 0 := by simp [ranP] at ht; omega
    exact ⟨_, 2, hB.cell rfl, evS_full (l := [⟨3, 0, 5⟩, ⟨2, 2, 0⟩]) hA rfl (by decide)⟩⟩⟩
  have hQ : IntS W (some ⟨w.heap.size + 1 + 1, 0, none⟩) [0, 0] := intS_full hI rfl (by decide)
  refine (run_any ranP [0, 0] _ _ 1 2 W hP hQ).mono ?_
  rintro r w1 ⟨a, c, _, rfl, _, hk⟩
  have hY1 := endR_one ranP [0, 0]
  have hYs := endR_size ranP [0, 0]
  rw [HV.out]
  rw [show errR ranP [(0 : Int), 0].length = 0 from HR.out]
  obtain ⟨Y, hY⟩ : ∃ Y, endR ranP [0, 0] = Y := ⟨_, rfl⟩
  rw [hY] at hY1 hYs ⊢
  have hb1 := hb.trans (hk.mono hb.size)
  have m2 : Y[2]? = some (.int .i64 5) := by rw [← hY, HE.out, endC_get _ _ _ (by omega), ← HM.out]; rfl
  have m18 : Y[18]? = some (.bool true) := by rw [← hY, HE.out, endC_get _ _ _ (by omega)]; rfl
  have HS := Lib.hid hYs
  have H1 := Lib.hid hY1
  have HM2 := Lib.hid m2
  have HM18 := Lib.hid m18
  clear hk hY1 hYs hY HE HV HR HM hP hQ hA hB hI hb m2 m18
  go_wp2_with (refine wpList_store_row rfl endT _ _ rfl w1.heap.size Y rfl rfl endT _ (Has.new w1 (endC PS.zero false false) endT).out (by rw [HS.out]; rfl) (by rw [HS.out, endC_size]) H1.out ?_
               generalize hW3 : World.setRow _ _ _ = W3
               have hZ3 : Has W3 w1.heap.size Y endT := by rw [← hW3]; exact (Has.new w1 (endC PS.zero false false) endT).setRow
               have hb3 : Below w.heap.size w W3 := by rw [← hW3]; exact below_setRow (hb1.alloc hb1.size _) hb1.size
               have c2 : W3.cell? ⟨w1.heap.size, 2, none⟩ = some (.int .i64 5) := hZ3.cell HM2.out
               have c18 : W3.cell? ⟨w1.heap.size, 18, none⟩ = some (.bool true) := hZ3.cell HM18.out
               clear hW3 hb1)
  go_ret
  exact ⟨rfl, hb3⟩
end Go.Proofs.Ythfeakfakjecoaa
