/- Contracts: locks (pairs of locks out of pairs), ringed. -/
import Derived.Test.YtoohconipcleiaaMU
import Derived.Test.YtoohconipcleiaaRest
import Derived.Test.YtoohconipcleiaaEqI
import Derived.Deep.RegionLaw
namespace Go.Proofs.Ytoohconipcleiaa
open Go.RowKit

def lockP (x : Int × Int) : Int × Int := (x.1 % 5, x.2 % 5)
theorem lockP_ok (p : List (Int × Int)) : okPr (p.map lockP) := by
  intro x hx
  obtain ⟨y, _, rfl⟩ := List.mem_map.1 hx
  simp only [lockP]
  omega
theorem infoPr : (Try.prog.info? 99).map (fun i => (i.zero, i.size, i.bytes)) = some (some (prV (0, 0)), 2, 16) := by kernel_rfl
theorem prS_ownc {w : World} {base : Nat} {e : TypeId} {v : Value} {l : List (Int × Int)} (h : w.ownsRow base e 2 v l.length (prL l)) (hb : l.length < 4611686018427387904) : ∃ a c, v = .slice a l.length c ∧ PrS w a l ∧ l.length ≤ c ∧ (a = none ∧ c = 0 ∧ l.length = 0 ∨ ∃ g, a = some ⟨g, 0, none⟩) := by
  rcases h.2 with ⟨rfl, hn⟩ | ⟨g, cap, cur, rfl, hg, hh, hnc, _⟩
  · exact ⟨none, 0, by rw [hn], ⟨hb, .inl (List.eq_nil_of_length_eq_zero hn)⟩, by omega, .inl ⟨rfl, rfl, hn⟩⟩
  · obtain ⟨a, c, h1, h2⟩ := prS_own h hb
    cases h1
    exact ⟨_, _, rfl, h2, hnc, .inr ⟨g, rfl⟩⟩
end Go.Proofs.Ytoohconipcleiaa
