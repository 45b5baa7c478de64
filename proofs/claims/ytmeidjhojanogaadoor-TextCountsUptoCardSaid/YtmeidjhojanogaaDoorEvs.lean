/- Slices of events as sources of an append; what an append of events leaves. -/
import Derived.Test.YtmeidjhojanogaaDoorApp
import Derived.Test.YtmeidjhojanogaaDoorSl
namespace Go.Proofs.YtmeidjhojanogaaDoor
open Go.RowKit

theorem EvS.src {w : World} {a : Option Addr} {l : List Ev} (h : EvS w a l) : Src w 3 a l.length (evL l) := by
  refine ⟨evL_length l, ?_⟩
  rcases h.ok with rfl | ⟨b, o, ha, hc⟩
  · exact .inl ⟨rfl, rfl⟩
  · right
    refine ⟨_, ha, fun j u hu => ?_⟩
    have hj : j < l.length * 3 := by rw [← evL_length]; exact (List.getElem?_eq_some_iff.1 hu).1
    have hi : j / 3 < l.length := by omega
    obtain ⟨h1, h2, h3⟩ := evL_get l (j / 3) hi
    obtain ⟨c1, c2, c3⟩ := hc (j / 3) hi
    have hadd : (⟨b, o, none⟩ : Addr).add j = ⟨b, o + j, none⟩ := by unfold Addr.add; split <;> simp_all
    rw [hadd]
    rcases (by omega : j = j / 3 * 3 ∨ j = j / 3 * 3 + 1 ∨ j = j / 3 * 3 + 2) with e | e | e
    · rw [e] at hu ⊢; rw [h1] at hu; rw [← Option.some.inj hu]; rw [← e] at c1 ⊢; exact c1
    · rw [e] at hu ⊢; rw [h2] at hu; rw [← Option.some.inj hu]; exact c2
    · rw [e] at hu ⊢; rw [h3] at hu; rw [← Option.some.inj hu]; exact c3
theorem evL_one (l : List Ev) : ∀ u ∈ evL l, u.oneCell' = true := by
  intro u hu
  simp only [evL, List.mem_flatMap] at hu
  obtain ⟨e, _, he⟩ := hu
  simp at he
  rcases he with rfl | rfl | rfl <;> rfl
theorem EvS.drop {w : World} {b o : Nat} {l : List Ev} (h : EvS w (some ⟨b, o, none⟩) l) (n : Nat) : EvS w (some ⟨b, o + n * 3, none⟩) (l.drop n) := by
  refine ⟨by have := h.big; simp; omega, ?_⟩
  rcases h.ok with h0 | ⟨b', o', ha, hc⟩
  · left; simp [h0]
  · right
    cases ha
    refine ⟨b, o + n * 3, rfl, fun i hi => ?_⟩
    rw [List.getElem_drop]
    have := hc (n + i) (by simp at hi; omega)
    rw [show o + n * 3 + i * 3 = o + (n + i) * 3 by omega]
    exact this
theorem EvS.drew {w : World} {a : Option Addr} {l : List Ev} (h : EvS w a l) : EvS w.drew a l := h.below (Below.refl _ _).drew
/-- The tail of a slice, as the model cuts it. -/
theorem EvS.tail {w : World} {b o : Nat} {l : List Ev} (h : EvS w (some ⟨b, o, none⟩) l) (n c : Nat) (hc : l.length ≤ c) : EvS w (if c = n then some ⟨b, o, none⟩ else some ⟨b, o + n * 3, none⟩) (l.drop n) := by
  split
  · rename_i e
    have : l.drop n = [] := List.drop_eq_nil_of_le (by omega)
    rw [this]
    exact ⟨by simp, .inl rfl⟩
  · exact h.drop n
/-- Nothing that was there is touched by an append onto nil. -/
theorem Appended.fresh {w w' : World} {base e size : Nat} {v' : Value} {n : Nat} {xs : List Value} (h : Appended w w' base e size (.slice none 0 0) v' n xs) : Below w.heap.size w w' :=
  (Below.refl _ _).grown h.grown (Nat.le_refl _) (fun k hk => by simp [Value.ownBlock] at hk)
theorem Appended.fresh2 {w w1 w2 : World} {base e size : Nat} {v1 v2 : Value} {n n' : Nat} {xs ys : List Value} (h : Appended w w1 base e size (.slice none 0 0) v1 n xs) (h2 : Appended w1 w2 base e size v1 v2 n' ys) : Below w.heap.size w w2 :=
  h.fresh.grown h2.grown h.fresh.size (fun k hk => by
    rcases h.lies with e | e <;> rw [e] at hk
    · simp [Value.ownBlock] at hk
    · rw [← Option.some.inj hk]; exact Nat.le_refl _)
/-- A slice of events that an append left. -/
theorem Appended.evs {w0 w : World} {base e : Nat} {v v' : Value} {n : Nat} {l : List Ev} {xs : List Value} (h : Appended w0 w base e 3 v v' n xs) (hx : xs = evL l) (hn : n = l.length) (hb : l.length < 4611686018427387904) :
    ∃ a c, v' = .slice a l.length c ∧ EvS w a l := by
  have ho := h.own
  rw [hx, hn] at ho
  obtain ⟨a, c, h1, h2, _⟩ := evS_own ho hb
  exact ⟨a, c, h1, h2⟩
end Go.Proofs.YtmeidjhojanogaaDoor
