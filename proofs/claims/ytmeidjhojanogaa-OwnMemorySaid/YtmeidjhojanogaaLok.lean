/- All events of one lock are ordered. No program. -/
import Derived.Test.YtmeidjhojanogaaVal
import Derived.Test.YtmeidjhojanogaaOrdT
namespace Go.Proofs.Ytmeidjhojanogaa

def isLk (e : Ev) : Bool := decide (e.k = 3) || decide (e.k = 4)
theorem isLk_iff {e : Ev} : isLk e = true ↔ e.k = 3 ∨ e.k = 4 := by simp [isLk]
theorem lock_last {l : List Ev} (h : (played l).2.2 = 0) {i : Nat} (hi : i < l.length) (hk : isLk (evAt l i) = true) :
    ∀ m, i < m → m ≤ l.length → ∃ q, i ≤ q ∧ q < m ∧ isLk (evAt l q) = true ∧ (evAt l q).o = (evAt l i).o ∧ (q = i ∨ R l q i = true) ∧ (∀ p, q < p → p < m → ¬ (isLk (evAt l p) = true ∧ (evAt l p).o = (evAt l i).o)) ∧ (stAt l m).owner (evAt l i).o.toNat = if (evAt l q).k = 3 then (evAt l q).t + 1 else 0 := by
  intro m
  induction m with
  | zero => intro h; omega
  | succ m ih =>
    intro him hml
    have hm : m < l.length := by omega
    rw [stAt, stFrom_succ _ _ _ hm]
    by_cases e : m = i
    · subst e
      exact ⟨m, Nat.le_refl _, by omega, hk, rfl, .inl rfl, fun p h1 h2 => by omega, lock_own (isLk_iff.1 hk)⟩
    · obtain ⟨q, h1, h2, h3, h4, h5, h7, h6⟩ := ih (by omega) (by omega)
      by_cases hl : isLk (evAt l m) = true ∧ (evAt l m).o = (evAt l i).o
      · refine ⟨m, by omega, by omega, hl.1, hl.2, .inr ?_, fun p h1 h2 => by omega, by rw [← hl.2]; exact lock_own (isLk_iff.1 hl.1)⟩
        have hd : R l m q = true := by
          refine R_dir (by omega) (dirE_iff.2 ?_)
          have ho : (evAt l q).o = (evAt l m).o := h4.trans hl.2.symm
          have er := err0 ((ok_at h).1 m hm)
          have b1 := ev_at h hm
          have b2 := ev_at h (show q < l.length by omega)
          rw [hl.2] at er
          rcases isLk_iff.1 hl.1 with k3 | k4
          · have e1 := er.2.2.2.1 k3
            rw [h6] at e1
            by_cases kq : (evAt l q).k = 3
            · rw [if_pos kq] at e1; omega
            · have kq4 : (evAt l q).k = 4 := by rcases isLk_iff.1 h3 with h | h; exact absurd h kq; exact h
              exact .inr (.inl ⟨.inl ⟨kq4, k3⟩, ho⟩)
          · have e1 := er.2.2.2.2.1 k4
            rw [h6] at e1
            by_cases kq : (evAt l q).k = 3
            · rw [if_pos kq] at e1; exact .inl (by omega)
            · rw [if_neg kq] at e1; omega
        rcases h5 with rfl | h5
        · exact hd
        · exact R_trans hd h5
      · refine ⟨q, h1, by omega, h3, h4, h5, ?_, ?_⟩
        · intro p p1 p2
          by_cases e : p = m
          · subst e; exact hl
          · exact h7 p p1 (by omega)
        rw [← h6]
        exact lock_step (ev_at h hi).2.2.1 (ev_at h hm).2.2.1 (fun hh => hl ⟨isLk_iff.2 hh.1, hh.2⟩)
theorem locks_ordered {l : List Ev} (h : (played l).2.2 = 0) {i j : Nat} (hij : i < j) (hj : j < l.length) (hi : isLk (evAt l i) = true) (hk : isLk (evAt l j) = true) (ho : (evAt l i).o = (evAt l j).o) : R l j i = true := by
  obtain ⟨q, h1, h2, h3, h4, h5, h7, h6⟩ := lock_last h (show i < l.length by omega) hi (j + 1) (by omega) (by omega)
  by_cases e : q = j
  · subst e
    rcases h5 with rfl | h5
    · omega
    · exact h5
  · exact absurd ⟨hk, ho.symm⟩ (h7 j (by omega) (by omega))
end Go.Proofs.Ytmeidjhojanogaa
