/- Has at flags. -/
import Derived.Test.YtfaoehpmkhmdhaaEqF
import Derived.Test.YtfaoehpmkhmdhaaLst
import Derived.IntWalk
import Derived.Deep.DeepCutAuto
namespace Go.Proofs.Ytfaoehpmkhmdhaa
open Go.RowKit

set_option maxHeartbeats 1000000 in
theorem hasFl_any (l : List Ev) (x : Ev) (a : Option Addr) (c : Nat) (w : World) (h : EvS w a l) :
    Calls Try.prog 20 #[.slice a l.length c, evV x] w fun e w' => e = .returned (.bool (hasB l x)) ∧ Below w.heap.size w w' := by
  have hbig := h.big
  have HNE := Lib.hid eql_fl
  have hX := Has.new w (evC x) 36
  have hb0 := (Below.refl w.heap.size w).alloc (Nat.le_refl _) (.cells (evC x) 36)
  go_enter Try.func20, Try.ntmps20
  go_wp2
  go_loopw [9] (fun i wr => ∃ k : Nat, k ≤ l.length ∧ i = .int .i64 k ∧ Hid (hasB l x = hasB (l.drop k) x) ∧ Has wr w.heap.size (evC x) 36 ∧ Below w.heap.size w wr) (fun i _ => l.length - (intOf i).toNat)
  case atStart => exact ⟨0, Nat.zero_le _, rfl, Lib.hid rfl, hX, hb0⟩
  case round =>
    clear hX hb0
    obtain ⟨k, hk, rfl, HC, hX, hb⟩ := hrel
    by_cases hlt : k < l.length
    · obtain ⟨b, o, rfl, d0, d1, d2⟩ := (h.below hb).at hlt
      have hd : l.drop k = l[k] :: l.drop (k + 1) := List.drop_eq_getElem_cons hlt
      generalize l[k] = y at *
      have hY := Has.new wr (evC y) 36
      have hb2 := hb.alloc hb.size (.cells (evC y) 36)
      have hX2 := hX.alloc (.cells (evC y) 36)
      have hXl := hX.lt
      go_upto_region 4 with fail
      clear d0 d1 d2
      generalize wr.alloc (.cells (evC y) 36) = w4 at *
      obtain ⟨x0, x1, x2⟩ : w4.cell? ⟨w.heap.size, 0, none⟩ = some (.int .i64 x.k) ∧ w4.cell? ⟨w.heap.size, 1, none⟩ = some (.int .i64 x.t) ∧ w4.cell? ⟨w.heap.size, 2, none⟩ = some (.int .i64 x.o) := ⟨hX2.cell rfl, hX2.cell rfl, hX2.cell rfl⟩
      obtain ⟨y0, y1, y2⟩ : w4.cell? ⟨wr.heap.size, 0, none⟩ = some (.int .i64 y.k) ∧ w4.cell? ⟨wr.heap.size, 1, none⟩ = some (.int .i64 y.t) ∧ w4.cell? ⟨wr.heap.size, 2, none⟩ = some (.int .i64 y.o) := ⟨hY.cell rfl, hY.cell rfl, hY.cell rfl⟩
      by_cases hy : x = y
      · have hr : hasB l x = true := by rw [HC.out, hd]; simp [hasB, hy]
        have HR := Lib.hid hr
        have hq : ∀ W, (binOp .eql 36 (evV x) (evV y)).run Try.prog W = .ok (.bool true) W := fun W => by rw [HNE.out]; simp [hy]
        clear hr hd HC hy
        go_wp2
        go_ret
        rw [HR.out]
        exact ⟨rfl, hb2⟩
      · have hr : hasB l x = hasB (l.drop (k + 1)) x := by rw [HC.out, hd]; simp [hasB, hy]
        have HR := Lib.hid hr
        have hq : ∀ W, (binOp .eql 36 (evV x) (evV y)).run Try.prog W = .ok (.bool false) W := fun W => by rw [HNE.out]; simp [hy]
        clear hr hd HC hy
        go_wp2
        go_roundw
        case rel => exact ⟨k + 1, by omega, by go_num, HR, hX2, hb2⟩
        case measure => (simp [intOf]; try omega)
    · have hr : hasB l x = false := by rw [HC.out, List.drop_eq_nil_of_le (by omega)]; simp [hasB]
      have HR := Lib.hid hr
      clear hr HC
      go_wp2
      go_ret
      rw [HR.out]
      exact ⟨rfl, hb⟩
end Go.Proofs.Ytfaoehpmkhmdhaa
