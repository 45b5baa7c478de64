/- Plain laws of races: prefixes; one thread; reads; one lock. No program. -/
import Derived.Test.YtmeidjhojanogaaRac
import Derived.Test.YtmeidjhojanogaaLok
namespace Go.Proofs.Ytmeidjhojanogaa

theorem rowR_filter (l : List Ev) (i n : Nat) : ∀ m, n ≤ m → (rowR l i m).filter (fun r => decide (r.b < (n : Int))) = rowR l i n := by
  intro m
  induction m with
  | zero => intro h; obtain rfl : n = 0 := by omega
            rfl
  | succ m ih =>
    intro h
    by_cases e : n = m + 1
    · subst e
      rw [List.filter_eq_self]
      intro r hr
      simp only [rowR, List.mem_map, List.mem_filter, List.mem_range] at hr
      obtain ⟨k, ⟨hk, _⟩, rfl⟩ := hr
      have : (k : Int) < ((m + 1 : Nat) : Int) := by omega
      exact decide_eq_true this
    · have hn : n ≤ m := by omega
      by_cases hc : i < m ∧ raceB l i m = true
      · rw [rowR_yes hc.1 hc.2, List.filter_append, ih hn]
        have : ¬ (m : Int) < n := by omega
        simp [raceOf, this]
      · have hz : rowR l i (m + 1) = rowR l i m := by
          simp only [rowR, List.range_succ, List.filter_append, List.map_append]
          have : (decide (i < m) && raceB l i m) = false := by
            rw [Bool.eq_false_iff]
            simpa using hc
          simp [this]
        rw [hz, ih hn]
theorem allR_filter (l : List Ev) (m n i : Nat) (h : n ≤ m) : (allR l m i).filter (fun r => decide (r.b < (n : Int))) = allR l n i := by
  rw [allR, List.filter_flatMap]
  unfold allR
  congr 1
  funext a
  exact rowR_filter l a n m h
theorem rowR_none (l : List Ev) {i n : Nat} (h : n ≤ i + 1) : rowR l i n = [] := by
  simp only [rowR, List.map_eq_nil_iff, List.filter_eq_nil_iff, List.mem_range]
  intro k hk
  simp; omega
theorem allR_top (l : List Ev) (n : Nat) : ∀ i, n ≤ i → allR l n i = allR l n n := by
  intro i
  induction i with
  | zero => intro h; obtain rfl : n = 0 := by omega
            rfl
  | succ i ih =>
    intro h
    by_cases e : n = i + 1
    · subst e; rfl
    · rw [allR_succ, rowR_none l (by omega), List.append_nil, ih (by omega)]
theorem raceB_take (l : List Ev) {n i k : Nat} (hi : i < k) (hk : k < n) : raceB (l.take n) i k = raceB l i k := by
  simp only [raceB, evAt_take l n i (by omega), evAt_take l n k hk, R_take l n k i hk]
theorem raceOf_take (l : List Ev) {n i k : Nat} (hi : i < k) (hk : k < n) : raceOf (l.take n) i k = raceOf l i k := by
  simp only [raceOf, evAt_take l n i (by omega), evAt_take l n k hk]
theorem rowR_take (l : List Ev) (n i : Nat) : ∀ m, m ≤ n → rowR (l.take n) i m = rowR l i m := by
  intro m
  induction m with
  | zero => intro _; rfl
  | succ m ih =>
    intro hm
    by_cases hi : i < m
    · cases hb : raceB l i m
      · rw [rowR_no hb, rowR_no (by rw [raceB_take l hi (by omega)]; exact hb), ih (by omega)]
      · rw [rowR_yes hi hb, rowR_yes hi (by rw [raceB_take l hi (by omega)]; exact hb), ih (by omega), raceOf_take l hi (by omega)]
    · rw [rowR_none _ (by omega), rowR_none _ (by omega)]
/-- The races of a prefix are those whose second place is in it. -/
theorem raceL_take (l : List Ev) (n : Nat) (h : n ≤ l.length) : raceL (l.take n) = (raceL l).filter fun r => decide (r.b < (n : Int)) := by
  have hl : (l.take n).length = n := by simp; omega
  rw [raceL, hl, allR_filter l l.length n l.length h, allR_top l n l.length h]
  unfold allR
  congr 1
  funext a
  exact rowR_take l n a n (Nat.le_refl _)
theorem raceL_nil {l : List Ev} (h : ∀ i j, i < j → j < l.length → raceB l i j = false) : raceL l = [] := by
  rw [List.eq_nil_iff_forall_not_mem]
  intro r hr
  obtain ⟨i, j, _, h1, h2, h3⟩ := mem_raceL.1 hr
  rw [h i j h1 h2] at h3; cases h3
/-- Of one thread nothing races. -/
theorem raceL_one {l : List Ev} (h : ∀ e ∈ l, e.t = 0) : raceL l = [] := by
  refine raceL_nil fun i j hij hj => ?_
  have hi : (evAt l i).t = 0 := by rw [evAt_lt (show i < l.length by omega)]; exact h _ (List.getElem_mem _)
  have hjt : (evAt l j).t = 0 := by rw [evAt_lt hj]; exact h _ (List.getElem_mem _)
  have hR : R l j i = true := R_dir hij (dirE_iff.2 (.inl (by rw [hi, hjt])))
  simp [raceB, hR]
/-- Reads do not race. -/
theorem raceL_reads {l : List Ev} (h : ∀ e ∈ l, e.k ≠ 2) : raceL l = [] := by
  refine raceL_nil fun i j hij hj => ?_
  have hi : (evAt l i).k ≠ 2 := by rw [evAt_lt (show i < l.length by omega)]; exact h _ (List.getElem_mem _)
  have hjt : (evAt l j).k ≠ 2 := by rw [evAt_lt hj]; exact h _ (List.getElem_mem _)
  simp [raceB, hi, hjt]
/-- Two events of threads that have one lock are ordered. -/
theorem held_ordered {l : List Ev} (h : (played l).2.2 = 0) {i j o : Nat} (hij : i < j) (hj : j < l.length) (hi : (stAt l i).owner o = (evAt l i).t + 1) (hk : (stAt l j).owner o = (evAt l j).t + 1) : R l j i = true := by
  have key : ∀ m, i ≤ m → m ≤ l.length → ((stAt l m).owner o = (evAt l i).t + 1 ∧ True) ∨ ∃ q, i ≤ q ∧ q < m ∧ isLk (evAt l q) = true ∧ (evAt l q).o = o ∧ (q = i ∨ R l q i = true) ∧ (stAt l m).owner o = if (evAt l q).k = 3 then (evAt l q).t + 1 else 0 := by
    intro m
    induction m with
    | zero => intro h1 _; obtain rfl : i = 0 := by omega
              exact .inl ⟨hi, trivial⟩
    | succ m ih =>
      intro him hml
      have hm : m < l.length := by omega
      by_cases e : i = m + 1
      · subst e; exact .inl ⟨hi, trivial⟩
      · have bi := ev_at h (show i < l.length by omega)
        have bm := ev_at h hm
        rw [stAt, stFrom_succ _ _ _ hm]
        by_cases hl : isLk (evAt l m) = true ∧ (evAt l m).o = o
        · have er := err0 ((ok_at h).1 m hm)
          have hon : (evAt l m).o.toNat = o := by have := hl.2; omega
          have ihm := ih (by omega) (by omega)
          refine .inr ⟨m, by omega, by omega, hl.1, hl.2, ?_, by rw [← hon]; exact lock_own (isLk_iff.1 hl.1)⟩
          by_cases e2 : m = i
          · exact .inl e2
          · right
            rw [hon] at er
            rcases ihm with ⟨h1, _⟩ | ⟨q, h1, h2, h3, h4, h5, h6⟩
            · rcases isLk_iff.1 hl.1 with k3 | k4
              · have := er.2.2.2.1 k3
                omega
              · have := er.2.2.2.2.1 k4
                exact R_dir (by omega) (dirE_iff.2 (.inl (by omega)))
            · have bq := ev_at h (show q < l.length by omega)
              have hd : R l m q = true := by
                refine R_dir h2 (dirE_iff.2 ?_)
                rcases isLk_iff.1 hl.1 with k3 | k4
                · have e1 := er.2.2.2.1 k3
                  rw [h6] at e1
                  by_cases kq : (evAt l q).k = 3
                  · rw [if_pos kq] at e1; omega
                  · have kq4 : (evAt l q).k = 4 := by rcases isLk_iff.1 h3 with h | h; exact absurd h kq; exact h
                    exact .inr (.inl ⟨.inl ⟨kq4, k3⟩, by omega⟩)
                · have e1 := er.2.2.2.2.1 k4
                  rw [h6] at e1
                  by_cases kq : (evAt l q).k = 3
                  · rw [if_pos kq] at e1; exact .inl (by omega)
                  · rw [if_neg kq] at e1; omega
              rcases h5 with rfl | h5
              · exact hd
              · exact R_trans hd h5
        · have hst : (nxt (stFrom St.first l m) (evAt l m)).owner o = (stFrom St.first l m).owner o := by
            have := lock_step (s := stFrom St.first l m) (e := evAt l m) (o := (o : Int)) (by omega) bm.2.2.1 (fun hh => hl ⟨isLk_iff.2 hh.1, hh.2⟩)
            simpa using this
          rw [hst]
          have ihm := ih (by omega) (by omega)
          rcases ihm with ⟨h1, _⟩ | ⟨q, h1, h2, h3, h4, h5, h6⟩
          · exact .inl ⟨h1, trivial⟩
          · exact .inr ⟨q, h1, by omega, h3, h4, h5, h6⟩
  have bj := ev_at h hj
  rcases key j (by omega) (by omega) with ⟨h1, _⟩ | ⟨q, h1, h2, h3, h4, h5, h6⟩
  · exact R_dir hij (dirE_iff.2 (.inl (by omega)))
  · rw [hk] at h6
    have hq : R l j q = true := by
      by_cases kq : (evAt l q).k = 3
      · rw [if_pos kq] at h6
        exact R_dir h2 (dirE_iff.2 (.inl (by omega)))
      · rw [if_neg kq] at h6; omega
    rcases h5 with rfl | h5
    · exact hq
    · exact R_trans hq h5
end Go.Proofs.Ytmeidjhojanogaa
