/- Contract of order.Leads. -/
import Derived.Test.YtlphmkdlacnnoaaOrdE
import Derived.Test.YtlphmkdlacnnoaaOrdT
namespace Go.Proofs.Ytlphmkdlacnnoaa
open Go.RowKit

theorem leads_ok (l : List Ev) (i j : Nat) (a : Option Addr) (c : Nat) (w : World) (h : EvS w a l) (he : (played l).2.2 = 0) (hi : i < l.length) (hj : j < l.length) :
    Calls Try.prog 20 #[.slice a l.length c, .int .i64 (i : Int), .int .i64 (j : Int)] w fun r w' => r = .returned (.tuple #[.bool (R l j i), .int .i64 0]) ∧ Below w.heap.size w w' := by
  obtain ⟨hl80, _⟩ := played_evs he
  have HE := Lib.hid he
  have i1 : decide ((i : Int) < 0) = false := by simp
  have i2 : decide ((i : Int) ≥ (l.length : Int)) = false := by simp; omega
  have i3 : decide ((l.length : Int) ≤ (i : Int)) = false := by simp; omega
  have j1 : decide ((j : Int) < 0) = false := by simp
  have j2 : decide ((j : Int) ≥ (l.length : Int)) = false := by simp; omega
  have j3 : decide ((l.length : Int) ≤ (j : Int)) = false := by simp; omega
  clear he
  go_enter Try.func20, Try.ntmps20
  go_wp2_with fail
  refine (check_any l a c _ h).mono ?_
  rintro r w1 ⟨rfl, hb⟩
  rw [HE.out]
  replace h := h.below hb
  go_wp2_with fail
  refine (ahead_any l a c _ h hl80).mono ?_
  rintro r w2 ⟨B, rfl, hA⟩
  have hb2 := hb.trans (hA.below.mono hb.size)
  have tc := hA.top.cell (rRow_get l.length l.length B hj hj)
  have rc := (hA.rows j hj).cell (bRow_get l.length (rowsTo l l.length j) hi)
  have e : rowsTo l l.length j i = R l j i := rowsTo_R l _ j i hj
  rw [e] at rc
  clear e hA
  go_wp2
  go_ret2
  exact ⟨rfl, hb2⟩
end Go.Proofs.Ytlphmkdlacnnoaa
