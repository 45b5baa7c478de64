/- The closed fact 'guarded'. -/
import Derived.Test.YtoohconipcleiaaNA
import Derived.Test.YtoohconipcleiaaMR
namespace Go.Proofs.Ytoohconipcleiaa
open Go.RowKit

theorem gWs_two : gWs twoL = [⟨2, 0, 0⟩] := by decide +kernel
theorem evS_nil (w : World) : EvS w none [] := ⟨by simp, .inl rfl⟩
end Go.Proofs.Ytoohconipcleiaa
