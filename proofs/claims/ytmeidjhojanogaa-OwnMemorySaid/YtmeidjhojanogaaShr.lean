/- The fewest events, plain: what a pass leaves, what is left in the end; an event left out leaves the races of the others. No program. -/
import Derived.Test.YtmeidjhojanogaaRacP
namespace Go.Proofs.Ytmeidjhojanogaa

/-- May event i be left out? -/
def shOk (l : List Ev) (i : Nat) : Bool := ((played (l.eraseIdx i)).2.2 == 0) && !(raceL (l.eraseIdx i)).isEmpty
def passL : Nat → List Ev → Nat → Bool → List Ev × Bool
  | 0, l, _, b => (l, b)
  | n + 1, l, i, b => if shOk l i then passL n (l.eraseIdx i) i true else passL n l (i + 1) b
/-- A trace with a race. -/
structure Racy (l : List Ev) : Prop where
  ok : (played l).2.2 = 0
  race : raceL l ≠ []
theorem shOk_racy {l : List Ev} {i : Nat} (h : shOk l i = true) : Racy (l.eraseIdx i) := by
  simp only [shOk, Bool.and_eq_true, beq_iff_eq, Bool.not_eq_true', List.isEmpty_eq_false_iff] at h
  exact ⟨h.1, h.2⟩
theorem shOk_of {l : List Ev} {i : Nat} (h : Racy (l.eraseIdx i)) : shOk l i = true := by
  simp only [shOk, Bool.and_eq_true, beq_iff_eq, Bool.not_eq_true', List.isEmpty_eq_false_iff]
  exact ⟨h.ok, h.race⟩
structure Pass (l : List Ev) (i : Nat) (b : Bool) (r : List Ev × Bool) : Prop where
  sub : r.1.Sublist l
  racy : Racy l → Racy r.1
  less : r.2 = true → b = true ∨ r.1.length < l.length
  same : r.2 = false → b = false ∧ r.1 = l ∧ ∀ j, i ≤ j → j < l.length → shOk l j = false
theorem pass_is : ∀ (n : Nat) (l : List Ev) (i : Nat) (b : Bool), i + n = l.length → Pass l i b (passL n l i b)
  | 0, l, i, b, h => ⟨List.Sublist.refl _, id, fun e => .inl e, fun e => ⟨e, rfl, fun j h1 h2 => by omega⟩⟩
  | n + 1, l, i, b, h => by
    simp only [passL]
    by_cases hs : shOk l i = true
    · rw [if_pos hs]
      have hl : (l.eraseIdx i).length = l.length - 1 := by rw [List.length_eraseIdx, if_pos (by omega)]
      have ih := pass_is n (l.eraseIdx i) i true (by omega)
      refine ⟨ih.sub.trans (List.eraseIdx_sublist ..), fun _ => ih.racy (shOk_racy hs), fun _ => .inr ?_, fun e => ?_⟩
      · have := ih.sub.length_le
        omega
      · have := (ih.same e).1
        cases this
    · rw [if_neg hs]
      have ih := pass_is n l (i + 1) b (by omega)
      refine ⟨ih.sub, ih.racy, ih.less, fun e => ?_⟩
      obtain ⟨h1, h2, h3⟩ := ih.same e
      refine ⟨h1, h2, fun j h4 h5 => ?_⟩
      by_cases e2 : j = i
      · subst e2; simpa using hs
      · exact h3 j (by omega) h5
def minL : Nat → List Ev → List Ev
  | 0, l => l
  | n + 1, l => if (passL l.length l 0 false).2 then minL n (passL l.length l 0 false).1 else (passL l.length l 0 false).1
structure Least (l m : List Ev) : Prop where
  sub : m.Sublist l
  racy : Racy l → Racy m
  min : ∀ j, j < m.length → shOk m j = false
theorem min_is : ∀ (n : Nat) (l : List Ev), l.length < n → Least l (minL n l)
  | 0, l, h => by omega
  | n + 1, l, h => by
    have hp := pass_is l.length l 0 false (by omega)
    simp only [minL]
    by_cases hb : (passL l.length l 0 false).2 = true
    · rw [if_pos hb]
      rcases hp.less hb with e | e
      · cases e
      · have ih := min_is n (passL l.length l 0 false).1 (by omega)
        exact ⟨ih.sub.trans hp.sub, fun hr => ih.racy (hp.racy hr), ih.min⟩
    · rw [if_neg hb]
      obtain ⟨_, h2, h3⟩ := hp.same (by simpa using hb)
      rw [h2]
      exact ⟨List.Sublist.refl _, id, fun j hj => h3 j (by omega) hj⟩
theorem pass_none {l : List Ev} : ∀ (n i : Nat) (b : Bool), i + n = l.length → (∀ j, j < l.length → shOk l j = false) → passL n l i b = (l, b)
  | 0, _, _, _, _ => rfl
  | n + 1, i, b, h, hs => by
    simp only [passL]
    rw [hs i (by omega)]
    exact pass_none n (i + 1) b (by omega) hs
theorem min_again {l : List Ev} {n : Nat} (hs : ∀ j, j < l.length → shOk l j = false) : minL n l = l := by
  cases n with
  | zero => rfl
  | succ n =>
    simp only [minL]
    rw [pass_none l.length 0 false (by omega) hs]
    rfl
/-- Where an event stood. -/
def up (d i : Nat) : Nat := if i < d then i else i + 1
theorem erase_at (l : List Ev) (d i : Nat) : evAt (l.eraseIdx d) i = evAt l (up d i) := by
  simp only [evAt, List.getD_eq_getElem?_getD, up, List.getElem?_eraseIdx]
  split <;> rfl
theorem up_lt {d i j : Nat} : up d i < up d j ↔ i < j := by
  unfold up
  split <;> split <;> omega
theorem R_erase {l : List Ev} (d : Nat) : ∀ (a k : Nat), R (l.eraseIdx d) a k = true → R l (up d a) (up d k) = true := by
  intro a
  induction a using Nat.strongRecOn with
  | ind a ih =>
    intro k h
    rw [(spec_all (l.eraseIdx d) a) k] at h
    obtain ⟨i, hi, hd, hk⟩ := h
    rw [erase_at, erase_at] at hd
    rw [(spec_all l (up d a)) (up d k)]
    refine ⟨up d i, up_lt.2 hi, hd, ?_⟩
    rcases hk with rfl | hk
    · exact .inl rfl
    · exact .inr (ih i hi k hk)
/-- Who raced races still. -/
theorem race_erase {l : List Ev} {d i j : Nat} (h : raceB l (up d i) (up d j) = true) : raceB (l.eraseIdx d) i j = true := by
  rw [raceB_iff] at h ⊢
  rw [erase_at, erase_at]
  refine ⟨h.1, h.2.1, h.2.2.1, ?_, h.2.2.2.2⟩
  rw [Bool.eq_false_iff]
  intro hR
  rw [R_erase d j i hR] at h
  have := h.2.2.2.1
  cases this
end Go.Proofs.Ytmeidjhojanogaa
