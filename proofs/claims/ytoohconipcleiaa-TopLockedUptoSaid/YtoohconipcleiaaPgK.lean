/- A lock that a program has at each of its accesses: its runs have it. No program. -/
import Derived.Test.YtoohconipcleiaaMC
import Derived.Test.YtoohconipcleiaaMB
namespace Go.Proofs.Ytoohconipcleiaa

theorem doOp_owner (p : List (List Ev)) (s : PS) (t : Nat) (o : Ev) (L : Nat) :
    (doOp p s t o).1.owner L = if o.k = 4 ∧ L = o.t.toNat then (t : Int) + 1 else if o.k = 5 ∧ L = o.t.toNat ∧ s.owner L = t + 1 then 0 else s.owner L := by
  by_cases k4 : o.k = 4
  · rw [do4 k4]
    show upZ s.owner o.t.toNat _ L = _
    unfold upZ
    by_cases e : L = o.t.toNat
    · rw [if_pos e, if_pos ⟨k4, e⟩]
    · rw [if_neg e, if_neg (fun h => e h.2), if_neg (fun h => e h.2.1)]
  · rw [if_neg (fun h => k4 h.1)]
    by_cases k5 : o.k = 5
    · by_cases c : s.owner o.t.toNat = t + 1
      · rw [do5y k5 c]
        show upZ s.owner o.t.toNat _ L = _
        unfold upZ
        by_cases e : L = o.t.toNat
        · rw [if_pos e, if_pos ⟨k5, e, by rw [e]; exact c⟩]
        · rw [if_neg e, if_neg (fun h => e h.2.1)]
      · rw [do5n k5 c, if_neg (fun h => c (by rw [← h.2.1]; exact h.2.2))]
    · rw [if_neg (fun h => k5 h.1)]
      unfold doOp
      rw [if_neg k4, if_neg k5]
      (repeat' split) <;> rfl
theorem doOp_acc {p : List (List Ev)} {s : PS} {t : Nat} {o e : Ev} (h : (doOp p s t o).2 = some e) (hk : e.k = 1 ∨ e.k = 2) : o.k = 1 ∨ o.k = 2 := by
  unfold doOp at h
  by_cases k1 : o.k = 1
  · exact .inl k1
  by_cases k2 : o.k = 2
  · exact .inr k2
  exfalso
  rw [if_neg k1, if_neg k2] at h
  (repeat' split at h) <;> first | (cases h; done) | (simp only [Option.some.injEq] at h; subst h; rcases hk with hk | hk <;> simp at hk)
/-- By its text a thread has a lock ahead of its op i. -/
def HeldOp (p : List (List Ev)) (t i L : Nat) : Prop := ∃ j, j < i ∧ (opA p t j).k = 4 ∧ (opA p t j).t.toNat = L ∧ ∀ k, j < k → k < i → ¬ ((opA p t k).k = 5 ∧ (opA p t k).t.toNat = L)
def LockH (p : List (List Ev)) (s : PS) : Prop := ∀ t L, HeldOp p t (s.at_ t) L → s.owner L = (t : Int) + 1
theorem LockH.first (p : List (List Ev)) : LockH p PS.first := fun t L h => by
  obtain ⟨j, hj, _⟩ := h
  exact absurd hj (Nat.not_lt_zero _)
theorem LockH.step {p : List (List Ev)} {s : PS} {t : Int} (h : LockH p s) (hc : canB p s t = true) : LockH p (stepP p s t.toNat).1 := by
  intro v L hv
  unfold stepP at hv ⊢
  rw [doOp_at] at hv
  rw [doOp_owner]
  have hv : HeldOp p v (upN s.at_ t.toNat (s.at_ t.toNat + 1) v) L := hv
  show (if (opN p s t.toNat).k = 4 ∧ L = (opN p s t.toNat).t.toNat then (t.toNat : Int) + 1 else if (opN p s t.toNat).k = 5 ∧ L = (opN p s t.toNat).t.toNat ∧ s.owner L = t.toNat + 1 then 0 else s.owner L) = _
  by_cases e : v = t.toNat
  · subst e
    rw [upN_same] at hv
    by_cases c : (opN p s t.toNat).k = 4 ∧ L = (opN p s t.toNat).t.toNat
    · rw [if_pos c]
    · rw [if_neg c]
      obtain ⟨j, hj, h4, hL, hno⟩ := hv
      have hji : j < s.at_ t.toNat := by
        by_cases e2 : j = s.at_ t.toNat
        · subst e2; exact absurd ⟨h4, hL.symm⟩ c
        · omega
      have hn : ¬ ((opN p s t.toNat).k = 5 ∧ L = (opN p s t.toNat).t.toNat ∧ s.owner L = t.toNat + 1) := fun c2 => hno (s.at_ t.toNat) hji (Nat.lt_succ_self _) ⟨c2.1, c2.2.1.symm⟩
      rw [if_neg hn]
      exact h _ _ ⟨j, hji, h4, hL, fun k h1 h2 => hno k h1 (by omega)⟩
  · rw [upN_ne e] at hv
    have ho := h _ _ hv
    by_cases c : (opN p s t.toNat).k = 4 ∧ L = (opN p s t.toNat).t.toNat
    · have := canB_lock hc c.1
      rw [← c.2, ho] at this
      omega
    · rw [if_neg c, if_neg (fun c2 => by have := c2.2.2; rw [ho] at this; omega)]
      exact ho
/-- It has the lock at each access. -/
def GAcc (p : List (List Ev)) (L : Nat) : Prop := ∀ t i, i < plen p t → (opA p t i).k = 1 ∨ (opA p t i).k = 2 → HeldOp p t i L
def HasL (l : List Ev) (L : Nat) : Prop := ∀ j, j < l.length → (evAt l j).k = 1 ∨ (evAt l j).k = 2 → (stAt l j).owner L = (evAt l j).t + 1
theorem stAt_front (l m : List Ev) {j : Nat} (h : j ≤ l.length) : stAt (l ++ m) j = stAt l j := by
  unfold stAt stFrom
  rw [List.take_append_of_le_length h]
theorem runP_held {p : List (List Ev)} (hp : OkP p) {L : Nat} (hg : GAcc p L) (picks : List Int) : HasL (runP p picks).2 L := by
  refine (run_ind hp (Q := fun r => Valid p r ∧ LockH p r.1 ∧ HasL r.2 L) ⟨⟨rfl, Agree.first p, Nat.zero_le _⟩, LockH.first p, fun j h => absurd h (Nat.not_lt_zero _)⟩ ?_ picks).2.2.2
  intro r t hI ⟨hV, hLk, hH⟩ hc
  have hn := canB_next hc
  obtain ⟨t0, t1, _, _⟩ := nextB_iff.1 hn
  have hat := nextB_at hI hn
  obtain ⟨h1, h2⟩ := hV.agree.step hp hI hc
  have h6 := hp.six
  have hs := sumA_step p r.1 (t := t.toNat) (by omega)
  cases he : (stepP p r.1 t.toNat).2 with
  | none =>
    simp only [Option.toList_none, List.append_nil]
    exact ⟨⟨hV.ok, h1 he, by have := hV.len; show r.2.length ≤ sumA (stepP p r.1 t.toNat).1; omega⟩, hLk.step hc, hH⟩
  | some e =>
    obtain ⟨g1, g2⟩ := h2 e he
    have hq := playL_snoc hV.ok g1
    simp only [Option.toList_some]
    refine ⟨⟨by show (playL St.first 0 (r.2 ++ [e])).2.2 = 0; rw [hq], by show Agree p _ (playL St.first 0 (r.2 ++ [e])).1; rw [hq]; exact g2, by have := hV.len; show (r.2 ++ [e]).length ≤ sumA (stepP p r.1 t.toNat).1; simp; omega⟩, hLk.step hc, ?_⟩
    intro j hj hk
    by_cases hlt : j < r.2.length
    · have e1 : evAt (r.2 ++ [e]) j = evAt r.2 j := by rw [evAt_lt hj, evAt_lt hlt, List.getElem_append_left hlt]
      rw [e1] at hk ⊢
      rw [stAt_front _ _ (Nat.le_of_lt hlt)]
      exact hH j hlt hk
    · have hje : j = r.2.length := by simp at hj; omega
      subst hje
      have e1 : evAt (r.2 ++ [e]) r.2.length = e := by rw [evAt_lt hj]; simp
      rw [e1] at hk ⊢
      rw [stAt_front _ _ (Nat.le_refl _)]
      show (stFrom St.first r.2 r.2.length).owner L = _
      rw [← (playL_at r.2 St.first 0 hV.ok).2, hV.agree.owner]
      have ht : e.t = (t.toNat : Int) := doOp_thread he
      rw [ht]
      exact hLk _ _ (hg _ _ hat (doOp_acc he hk))
end Go.Proofs.Ytoohconipcleiaa
