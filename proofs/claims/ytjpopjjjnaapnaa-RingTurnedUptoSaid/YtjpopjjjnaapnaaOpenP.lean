/- Arguments of a law, opened: slices of pairs; slices of slices of pairs. -/
import Derived.Test.YtjpopjjjnaapnaaOpenE
import Derived.Test.YtjpopjjjnaapnaaPrs
namespace Go.Proofs.Ytjpopjjjnaapnaa
open Go.ChangeShapes Go.WideShapes Go.ChangeAt Go.RowKit Go.Deep Go.Joins

theorem prs_bytes : Try.prog.bytesOf 31 = 16 := by kernel_rfl
section
variable {H : Type} {enc : TypeId × Value → H} {w : World} {base : Nat} {spare : Nat → Bool} {held : Bool} {r : Reach} {b0 : Nat}
set_option maxRecDepth 100000 in
theorem open_prs {v : Value} {d : DataW H} {p : List MemPlace}
    (hv : Value.okWide Try.prog w r b0 22 v) (h : DataW.Trod enc Try.prog w base spare held 22 v d p) (hsz : ∀ els sp, d = .slice els sp → (els.length + sp.length) * Try.prog.bytesOf 31 ≤ reachBytes) :
    ∃ (a : Option Addr) (z : List (Int × Int)) (c : Nat), v = .slice a z.length c ∧ PrS w a z ∧ z.length * 16 ≤ 140737488351232 := by
  obtain ⟨a, len, c, F, rfl, hb, hlc, hok, hI⟩ := open_structs Try.underlying22 Try.underlying31 (by kernel_rfl) (by decide) (by kernel_rfl) Try.underlying3 (by
    intro j f hj
    rcases (by have := (Array.getElem?_eq_some_iff.1 hj).1; simp at this; omega : j = 0 ∨ j = 1) with rfl | rfl <;> (simp at hj; subst hj; rfl)) hv h hsz
  rw [prs_bytes] at hb
  have hb' : len * 16 ≤ 140737488351232 := hb
  refine ⟨a, (List.range len).map fun i => (F i 0, F i 1), c, by simp, ⟨by simp; omega, ?_⟩, by simpa using hb'⟩
  rcases hok with h0 | ⟨b, o, rfl, hc⟩
  · left; simp [h0]
  · right
    refine ⟨b, o, rfl, fun i hi => ?_⟩
    have hi' : i < len := by simpa using hi
    have h0 := hc i hi' 0 (by decide)
    have h1 := hc i hi' 1 (by decide)
    simp only [List.getElem_map, List.getElem_range]
    exact ⟨h0, by rw [Nat.add_assoc]; exact h1⟩
end
theorem PrS.take {w : World} {a : Option Addr} {l : List (Int × Int)} (h : PrS w a l) (n : Nat) : PrS w a (l.take n) := by
  refine ⟨by have := h.big; simp; omega, ?_⟩
  rcases h.ok with h0 | ⟨b, o, ha, hc⟩
  · left; simp [h0]
  · right
    refine ⟨b, o, ha, fun i hi => ?_⟩
    rw [List.getElem_take]
    exact hc i (by simp at hi; omega)
end Go.Proofs.Ytjpopjjjnaapnaa
