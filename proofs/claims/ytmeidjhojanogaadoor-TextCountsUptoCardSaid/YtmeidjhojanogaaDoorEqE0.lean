/- A slice of events at a place. No program. -/
import Derived.Test.YtmeidjhojanogaaDoorSl
namespace Go.Proofs.YtmeidjhojanogaaDoor
theorem EvS.at {w : World} {a : Option Addr} {l : List Ev} (h : EvS w a l) {i : Nat} (hi : i < l.length) : ∃ b o, a = some ⟨b, o, none⟩ ∧ w.cell? ⟨b, o + i * 3, none⟩ = some (.int .i64 l[i].k) ∧ w.cell? ⟨b, o + i * 3 + 1, none⟩ = some (.int .i64 l[i].t) ∧ w.cell? ⟨b, o + i * 3 + 2, none⟩ = some (.int .i64 l[i].o) := by
  rcases h.ok with h0 | ⟨b, o, ha, hc⟩
  · simp [h0] at hi
  · exact ⟨b, o, ha, hc i hi⟩
end Go.Proofs.YtmeidjhojanogaaDoor
