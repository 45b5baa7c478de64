/- Slices of events that a call made: they lie in blocks of events above a bound, not frozen. Printed by a program. -/
import Derived.Test.YtmeidjhojanogaaTwo
namespace Go.Proofs.Ytmeidjhojanogaa
open Go.RowKit

/-- The slice lies in a block of events above B, or is empty. -/
def FrB (B : Nat) (w : World) (a : Option Addr) (l : List Ev) : Prop := l = [] ∨ ∃ g cs, a = some ⟨g, 0, none⟩ ∧ B ≤ g ∧ Has w g cs 26
structure EvF (B : Nat) (w : World) (a : Option Addr) (l : List Ev) : Prop where
  evs : EvS w a l
  fr : FrB B w a l
theorem EvF.below {B : Nat} {w w' : World} {a : Option Addr} {l : List Ev} (h : EvF B w a l) (k : Below w.heap.size w w') : EvF B w' a l := by
  refine ⟨h.evs.below k, ?_⟩
  rcases h.fr with h0 | ⟨g, cs, ha, hg, hb⟩
  · exact .inl h0
  · exact .inr ⟨g, cs, ha, hg, hb.below k hb.lt⟩
theorem EvF.mono {B C : Nat} {w : World} {a : Option Addr} {l : List Ev} (h : EvF B w a l) (k : C ≤ B) : EvF C w a l := by
  refine ⟨h.evs, ?_⟩
  rcases h.fr with h0 | ⟨g, cs, ha, hg, hb⟩
  · exact .inl h0
  · exact .inr ⟨g, cs, ha, Nat.le_trans k hg, hb⟩
theorem evF_own {w : World} {base : Nat} {v : Value} {l : List Ev} (h : w.ownsRow base 26 3 v l.length (evL l)) (hb : l.length < 4611686018427387904) : ∃ a c, v = .slice a l.length c ∧ EvF base w a l ∧ (∀ k, v.ownBlock = some k → base ≤ k) := by
  obtain ⟨a, c, e, hS, hl⟩ := evS_own h hb
  refine ⟨a, c, e, ⟨hS, ?_⟩, hl⟩
  rcases h.2 with ⟨_, hn⟩ | ⟨g, cap, cur, e2, hg, hh, _⟩
  · exact .inl (List.eq_nil_of_length_eq_zero hn)
  · rw [e] at e2; cases e2
    exact .inr ⟨g, cur, rfl, hg, ⟨hh⟩⟩
theorem RowO.evf {w : World} {g B : Nat} {l : List Ev} (h : RowO w 26 (some ⟨g, 0, none⟩) l) (hB : B ≤ g) (hb : l.length < 4611686018427387904) : EvF B w (some ⟨g, 0, none⟩) l := by
  refine ⟨h.evs hb, ?_⟩
  rcases h with h0 | ⟨g', cur, ha, hh, _⟩
  · exact .inl h0
  · cases ha; exact .inr ⟨g, cur, rfl, hB, hh⟩
end Go.Proofs.Ytmeidjhojanogaa
