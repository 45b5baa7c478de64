/- Equality of pairs, of slices of pairs. -/
import Derived.Test.YtjpopjjjnaapnaaPrs
namespace Go.Proofs.Ytjpopjjjnaapnaa
open Go.RowKit

theorem equalIn_pr (x y : Int × Int) (w : World) : (Op.equalIn 10000 31 (prV x) (prV y)).run Try.prog w = .ok (decide (x = y)) w := by
  obtain ⟨k, t⟩ := x
  obtain ⟨k', t'⟩ := y
  rw [run_equalIn_agg (P := Try.prog) w 9999 _ _ _ (by kernel_rfl) (by kernel_rfl)]
  simp [go_sem]
  by_cases h1 : k = k' <;> by_cases h2 : t = t' <;> simp [h1, h2]
theorem neq_pr (x y : Int × Int) (w : World) : (binOp .neq 31 (prV x) (prV y)).run Try.prog w = .ok (.bool (!decide (x = y))) w := by
  rw [run_neq_struct, equalIn_pr]; rfl
theorem eql_pr (x y : Int × Int) (w : World) : (binOp .eql 31 (prV x) (prV y)).run Try.prog w = .ok (.bool (decide (x = y))) w := by
  rw [run_eql_struct, equalIn_pr]; rfl
end Go.Proofs.Ytjpopjjjnaapnaa
