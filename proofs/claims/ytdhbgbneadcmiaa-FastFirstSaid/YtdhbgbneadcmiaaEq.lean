/- Equality of clocks (arrays of six ints) as the model runs it. -/
import Derived.Test.YtdhbgbneadcmiaaBase
import Derived.ChangeKeysEq
namespace Go.Proofs.Ytdhbgbneadcmiaa
open Go.RowKit

theorem run_part_int {P : Program} (w : World) {e : TypeId} (he : P.underlying e = some (.int .i64)) (xs : Array Value) (j : Nat) (v : Value) (hv : xs[j]? = some v) :
    (part e xs j).run P w = .ok v w := run_part_plain w (by simp [Program.plainKey, he]) hv

theorem run_eqItems_clk {P : Program} (d : Nat) {e : TypeId} (he : P.underlying e = some (.int .i64)) (f g : Nat → Int) (js : List Nat) (hj : ∀ j ∈ js, j < 6) (w : World) :
    (Op.eqItems (d + 1) e 1 (clkC f) (clkC g) js).run P w = .ok (js.all fun j => f j == g j) w := by
  induction js with
  | nil => simp [Op.eqItems]
  | cons j js ih =>
    have h6 := hj j (by simp)
    have h1 := run_part_int w he (clkC f) j _ (clkC_get f j h6)
    have h2 := run_part_int w he (clkC g) j _ (clkC_get g j h6)
    have h3 := run_equalIn_int (P := P) w d e .i64 .i64 (f j) (g j) he
    simp only [Op.eqItems, Sem.run_bind, Nat.mul_one, h1, h2, h3, Result.andThen_ok, List.all_cons]
    cases f j == g j
    · simp
    · simpa using ih fun k hk => hj k (by simp [hk])

theorem run_equalIn_clk {P : Program} {t e : TypeId} {i : TypeInfo} (ht : P.underlying t = some (.array 6 e)) (he : P.underlying e = some (.int .i64)) (hi : P.info? e = some i) (hc : P.cellsOf e = 1)
    (d : Nat) (f g : Nat → Int) (w : World) : (Op.equalIn (d + 2) t (clkV f) (clkV g)).run P w = .ok (ceq f g) w := by
  rw [run_equalIn_array w (d + 1) _ _ ht hi, hc, run_eqItems_clk d he f g _ (by simp)]
  congr 1
  rw [Bool.eq_iff_iff, ceq_iff]
  simp

theorem run_eql_clk {P : Program} {t e : TypeId} {i : TypeInfo} (ht : P.underlying t = some (.array 6 e)) (he : P.underlying e = some (.int .i64)) (hi : P.info? e = some i) (hc : P.cellsOf e = 1)
    (f g : Nat → Int) (w : World) : (binOp .eql t (clkV f) (clkV g)).run P w = .ok (.bool (ceq f g)) w := by
  rw [run_eql_struct, run_equalIn_clk ht he hi hc 9998]; rfl
theorem run_neq_clk {P : Program} {t e : TypeId} {i : TypeInfo} (ht : P.underlying t = some (.array 6 e)) (he : P.underlying e = some (.int .i64)) (hi : P.info? e = some i) (hc : P.cellsOf e = 1)
    (f g : Nat → Int) (w : World) : (binOp .neq t (clkV f) (clkV g)).run P w = .ok (.bool (!ceq f g)) w := by
  rw [run_neq_struct, run_equalIn_clk ht he hi hc 9998]; rfl
end Go.Proofs.Ytdhbgbneadcmiaa
