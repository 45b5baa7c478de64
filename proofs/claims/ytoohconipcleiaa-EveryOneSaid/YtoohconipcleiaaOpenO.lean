/- Arguments of a law, opened: slices of ops (an op is written as three numbers, as an event is). -/
import Derived.Test.YtoohconipcleiaaOpen
import Derived.Test.YtoohconipcleiaaMX
namespace Go.Proofs.Ytoohconipcleiaa
open Go.ChangeShapes Go.WideShapes Go.ChangeAt Go.RowKit Go.Deep Go.Joins

theorem opsl_bytes : Try.prog.bytesOf 40 = 24 := by kernel_rfl
section
variable {H : Type} {enc : TypeId × Value → H} {w : World} {base : Nat} {spare : Nat → Bool} {held : Bool} {r : Reach} {b0 : Nat}
set_option maxRecDepth 100000 in
theorem open_ops {v : Value} {d : DataW H} {p : List MemPlace}
    (hv : Value.okWide Try.prog w r b0 38 v) (h : DataW.Trod enc Try.prog w base spare held 38 v d p) (hsz : ∀ els sp, d = .slice els sp → (els.length + sp.length) * Try.prog.bytesOf 40 ≤ reachBytes) :
    ∃ (a : Option Addr) (z : List Ev) (c : Nat), v = .slice a z.length c ∧ EvS w a z ∧ z.length ≤ c ∧ z.length * 24 ≤ 140737488351232 ∧ ∀ e ∈ z, I64 e.k ∧ I64 e.t ∧ I64 e.o := by
  obtain ⟨a, len, c, F, rfl, hb, hlc, hok, hI⟩ := open_structs Try.underlying38 Try.underlying40 (by kernel_rfl) (by decide) (by kernel_rfl) Try.underlying3 (by
    intro j f hj
    rcases (by have := (Array.getElem?_eq_some_iff.1 hj).1; simp at this; omega : j = 0 ∨ j = 1 ∨ j = 2) with rfl | rfl | rfl <;> (simp at hj; subst hj; rfl)) hv h hsz
  rw [opsl_bytes] at hb
  have hb' : len * 24 ≤ 140737488351232 := hb
  refine ⟨a, (List.range len).map fun i => ⟨F i 0, F i 1, F i 2⟩, c, by simp, ⟨by simp; omega, ?_⟩, by simpa using hlc, by simpa using hb', ?_⟩
  · rcases hok with h0 | ⟨b, o, rfl, hc⟩
    · left; simp [h0]
    · right
      refine ⟨b, o, rfl, fun i hi => ?_⟩
      have hi' : i < len := by simpa using hi
      have h0 := hc i hi' 0 (by decide)
      have h1 := hc i hi' 1 (by decide)
      have h2 := hc i hi' 2 (by decide)
      simp only [List.getElem_map, List.getElem_range]
      exact ⟨h0, by rw [Nat.add_assoc]; exact h1, by rw [Nat.add_assoc]; exact h2⟩
  · intro e he
    simp only [List.mem_map, List.mem_range] at he
    obtain ⟨i, hi, rfl⟩ := he
    exact ⟨hI i hi 0 (by decide), hI i hi 1 (by decide), hI i hi 2 (by decide)⟩
end
end Go.Proofs.Ytoohconipcleiaa
