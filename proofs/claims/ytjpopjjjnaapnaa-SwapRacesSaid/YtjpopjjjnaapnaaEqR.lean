/- Equality of races, of slices of races. -/
import Derived.Test.YtjpopjjjnaapnaaRac
import Derived.Test.YtjpopjjjnaapnaaSl
namespace Go.Proofs.Ytjpopjjjnaapnaa
open Go.RowKit

theorem equalIn_rc (x y : Rc) (w : World) : (Op.equalIn 10000 58 (rcV x) (rcV y)).run Try.prog w = .ok (decide (x = y)) w := by
  obtain ⟨k, t, o, u⟩ := x
  obtain ⟨k', t', o', u'⟩ := y
  rw [run_equalIn_agg (P := Try.prog) w 9999 _ _ _ (by kernel_rfl) (by kernel_rfl)]
  simp [go_sem]
  by_cases h1 : k = k' <;> by_cases h2 : t = t' <;> by_cases h3 : o = o' <;> by_cases h4 : u = u' <;> simp [h1, h2, h3, h4]
theorem neq_rc (x y : Rc) (w : World) : (binOp .neq 58 (rcV x) (rcV y)).run Try.prog w = .ok (.bool (!decide (x = y))) w := by
  rw [run_neq_struct, equalIn_rc]; rfl
theorem eql_rc (x y : Rc) (w : World) : (binOp .eql 58 (rcV x) (rcV y)).run Try.prog w = .ok (.bool (decide (x = y))) w := by
  rw [run_eql_struct, equalIn_rc]; rfl
end Go.Proofs.Ytjpopjjjnaapnaa
