/- What is left of a trace if accesses without one lock are left out never races. No program. -/
import Derived.Test.YtgliichceildgaaRacP
import Derived.Test.YtgliichceildgaaHeld
namespace Go.Proofs.Ytgliichceildgaa

/-- The events that stay: all that are no accesses, and the accesses whose thread has lock k. -/
def stayB (l : List Ev) (k : Nat) (i : Nat) : Bool :=
  decide ((evAt l i).k > 2) || ((heldV (l.take i) (evAt l i).t).2 == 0 && ownB (played (l.take i)).1 (evAt l i).t k)
def gL (l : List Ev) (k n : Nat) : List Ev := ((List.range n).filter (stayB l k)).map (evAt l)
theorem heldV_ok {l : List Ev} {t : Int} (h : (heldV l t).2 = 0) : (heldV l t).1 = ((setN (ownB (played l).1 t) 5 : Nat) : Int) := by
  unfold heldV at h ⊢
  split at h
  · rename_i e; exact absurd h e
  · rename_i e
    rw [if_neg e]
    split at h
    · rename_i e2; rw [if_pos e2]
    · cases h
theorem set_bits : ∀ (b0 b1 b2 b3 b4 : Bool) (k : Fin 5), (bits BinOp.and .i64 (((0 + (if b0 then 2 ^ 0 else 0) + (if b1 then 2 ^ 1 else 0) + (if b2 then 2 ^ 2 else 0) + (if b3 then 2 ^ 3 else 0) + (if b4 then 2 ^ 4 else 0) : Nat) : Int) / 2 ^ k.val) 1 == 1) = (match k.val with | 0 => b0 | 1 => b1 | 2 => b2 | 3 => b3 | _ => b4) := by decide
theorem set_bit (own : Nat → Bool) {k : Nat} (h : k < 5) : (bits BinOp.and .i64 (((setN own 5 : Nat) : Int) / 2 ^ k) 1 == 1) = own k := by
  have := set_bits (own 0) (own 1) (own 2) (own 3) (own 4) ⟨k, h⟩
  simp only [setN]
  rw [this]
  rcases (by omega : k = 0 ∨ k = 1 ∨ k = 2 ∨ k = 3 ∨ k = 4) with rfl | rfl | rfl | rfl | rfl <;> rfl
theorem gL_yes {l : List Ev} {k n : Nat} (h : stayB l k n = true) : gL l k (n + 1) = gL l k n ++ [evAt l n] := by
  simp [gL, List.range_succ, List.filter_append, h]
theorem gL_no {l : List Ev} {k n : Nat} (h : stayB l k n = false) : gL l k (n + 1) = gL l k n := by
  simp [gL, List.range_succ, List.filter_append, h]
theorem gL_len (l : List Ev) (k n : Nat) : (gL l k n).length ≤ n := by
  simp only [gL, List.length_map]
  have := List.length_filter_le (stayB l k) (List.range n)
  simpa using this
theorem nxt_acc {s : St} {e : Ev} (h : ¬ e.k > 2) : nxt s e = s := by
  unfold nxt
  rw [if_neg (by omega), if_neg (by omega), if_neg (by omega), if_neg (by omega)]
theorem gL_state (l : List Ev) (k : Nat) : ∀ n, n ≤ l.length → (gL l k n).foldl nxt St.first = stAt l n
  | 0, _ => rfl
  | n + 1, h => by
    rw [stAt, stFrom_succ _ _ _ (by omega)]
    have ih := gL_state l k n (by omega)
    cases hs : stayB l k n
    · rw [gL_no hs, ih, nxt_acc]
      intro hk
      simp [stayB, hk] at hs
    · rw [gL_yes hs, List.foldl_append, ih]
      rfl
theorem gL_at (l : List Ev) (k : Nat) : ∀ n p, p < (gL l k n).length → ∃ i, i < n ∧ stayB l k i = true ∧ (gL l k n).take p = gL l k i ∧ evAt (gL l k n) p = evAt l i
  | 0, p, h => by simp [gL] at h
  | n + 1, p, h => by
    cases hs : stayB l k n
    · rw [gL_no hs] at h ⊢
      obtain ⟨i, h1, h2⟩ := gL_at l k n p h
      exact ⟨i, by omega, h2⟩
    · rw [gL_yes hs] at h ⊢
      by_cases hp : p < (gL l k n).length
      · obtain ⟨i, h1, h2, h3, h4⟩ := gL_at l k n p hp
        refine ⟨i, by omega, h2, ?_, ?_⟩
        · rw [List.take_append_of_le_length (by omega), h3]
        · rw [← h4]
          simp [evAt, List.getElem?_append_left hp]
      · have hp2 : p = (gL l k n).length := by simp at h; omega
        refine ⟨n, by omega, hs, ?_, ?_⟩
        · rw [hp2]; simp
        · rw [hp2]; simp [evAt]
theorem gL_races {l : List Ev} {k : Nat} (h : (played (gL l k l.length)).2.2 = 0) : raceL (gL l k l.length) = [] := by
  have key : ∀ p, p < (gL l k l.length).length → isAcc (evAt (gL l k l.length) p) = true → (stAt (gL l k l.length) p).owner k = (evAt (gL l k l.length) p).t + 1 := by
    intro p hp ha
    obtain ⟨i, h1, h2, h3, h4⟩ := gL_at l k l.length p hp
    have hst : stAt (gL l k l.length) p = stAt l i := by
      rw [stAt, stFrom, h3]
      exact gL_state l k i (by omega)
    rw [h4] at ha ⊢
    rw [hst]
    have hk : ¬ (evAt l i).k > 2 := by simp [isAcc] at ha; omega
    simp only [stayB, hk, decide_false, Bool.false_or, Bool.and_eq_true, beq_iff_eq] at h2
    obtain ⟨h5, h6⟩ := h2
    have h7 : (played (l.take i)).2.2 = 0 := by
      by_cases e : (played (l.take i)).2.2 = 0
      · exact e
      · simp [heldV, e] at h5
    have h8 := (ok_at h7).2
    have hl : (l.take i).length = i := by simp; omega
    rw [hl] at h8
    have h9 : stAt (l.take i) i = stAt l i := by simp only [stAt, stFrom, List.take_take, Nat.min_self]
    rw [h8, h9] at h6
    simpa [ownB] using h6
  refine raceL_nil fun i j hij hj => ?_
  rw [Bool.eq_false_iff]
  intro hr
  obtain ⟨p1, p2, p3, p4, p5⟩ := raceB_iff.1 hr
  have := held_ordered (o := k) h hij hj (key i (by omega) p1) (key j hj p2)
  rw [this] at p4
  cases p4
end Go.Proofs.Ytgliichceildgaa
