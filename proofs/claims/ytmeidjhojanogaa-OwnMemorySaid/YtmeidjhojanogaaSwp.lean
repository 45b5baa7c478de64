/- Events that are independent, swapped: a swapped trace is valid, ends in the same state, and each thread did the same. No program. -/
import Derived.Test.YtmeidjhojanogaaPlE
namespace Go.Proofs.Ytmeidjhojanogaa

/-- The group of a kind; is it mild? -/
def grp (k : Int) : Int := if k = 1 ∨ k = 2 then 1 else if k = 3 ∨ k = 4 then 2 else if k = 5 ∨ k = 6 then 3 else if k = 7 ∨ k = 8 then 4 else 0
def mildB (k : Int) : Bool := k == 1 || k == 6 || k == 7
def touchB (a b : Ev) : Bool := (a.k == 5 || a.k == 6) && a.o == b.t
def apartB (a b : Ev) : Bool := !(a.t == b.t || touchB a b || touchB b a) && (grp a.k == 0 || grp a.k != grp b.k || a.o != b.o || (mildB a.k && mildB b.k))
theorem apartB_iff {a b : Ev} : apartB a b = true ↔ a.t ≠ b.t ∧ touchB a b = false ∧ touchB b a = false ∧ (grp a.k = 0 ∨ grp a.k ≠ grp b.k ∨ a.o ≠ b.o ∨ (mildB a.k = true ∧ mildB b.k = true)) := by
  unfold apartB
  cases h1 : touchB a b <;> cases h2 : touchB b a <;> simp [or_assoc]
theorem apartB_symm (a b : Ev) : apartB a b = apartB b a := by
  have key : ∀ a b : Ev, apartB a b = true → apartB b a = true := by
    intro a b h
    obtain ⟨h1, h2, h3, h4⟩ := apartB_iff.1 h
    refine apartB_iff.2 ⟨Ne.symm h1, h3, h2, ?_⟩
    rcases h4 with h | h | h | ⟨h, h'⟩
    · by_cases e : grp b.k = 0
      · exact .inl e
      · exact .inr (.inl (by rw [h]; exact e))
    · exact .inr (.inl (Ne.symm h))
    · exact .inr (.inr (.inl (Ne.symm h)))
    · exact .inr (.inr (.inr ⟨h', h⟩))
  cases h1 : apartB a b <;> cases h2 : apartB b a
  · rfl
  · rw [key b a h2] at h1; cases h1
  · rw [key a b h1] at h2; cases h2
  · rfl
theorem apartB_self (a : Ev) : apartB a a = false := by simp [apartB]

theorem nxt_begun_iff (s : St) (e : Ev) (j : Nat) : (nxt s e).begun j = (s.begun j || (decide (e.k = 5) && decide (j = e.o.toNat))) := by
  unfold nxt
  by_cases h3 : e.k = 3
  · simp [h3]
  by_cases h4 : e.k = 4
  · simp [h4]
  by_cases h5 : e.k = 5
  · simp [h5, updB]
    by_cases hj : j = e.o.toNat <;> simp [hj]
  by_cases h6 : e.k = 6
  · simp [h6]
  · simp [h3, h4, h5, h6]
theorem nxt_over_iff (s : St) (e : Ev) (j : Nat) : (nxt s e).over j = (s.over j || (decide (e.k = 6) && decide (j = e.o.toNat))) := by
  unfold nxt
  by_cases h3 : e.k = 3
  · simp [h3]
  by_cases h4 : e.k = 4
  · simp [h4]
  by_cases h5 : e.k = 5
  · simp [h5]
  by_cases h6 : e.k = 6
  · simp [h6, updB]
    by_cases hj : j = e.o.toNat <;> simp [hj]
  · simp [h3, h4, h5, h6]
theorem nxt_owner_iff (s : St) (e : Ev) (j : Nat) : (nxt s e).owner j = if (e.k = 3 ∨ e.k = 4) ∧ j = e.o.toNat then (if e.k = 3 then e.t + 1 else 0) else s.owner j := by
  unfold nxt
  by_cases h3 : e.k = 3
  · simp [h3, updI]
  by_cases h4 : e.k = 4
  · simp [h4, updI]
  by_cases h5 : e.k = 5
  · simp [h5]
  by_cases h6 : e.k = 6
  · simp [h6]
  · simp [h3, h4, h5, h6]
theorem err_ok {s : St} {e : Ev} (h1 : isEv e = true) (h2 : s.begun e.t.toNat = true) (h3 : s.over e.t.toNat = false)
    (h4 : e.k = 3 → s.owner e.o.toNat = 0) (h5 : e.k = 4 → s.owner e.o.toNat = e.t + 1) (h6 : e.k = 5 → s.begun e.o.toNat = false) (h7 : e.k = 6 → s.begun e.o.toNat = true ∧ e.o ≠ e.t) : err s e = 0 := by
  unfold err
  rw [if_neg (by simp [h1]), if_neg (by simp [h2, h3])]
  by_cases k3 : e.k = 3
  · rw [if_pos k3, if_pos (h4 k3)]
  rw [if_neg k3]
  by_cases k4 : e.k = 4
  · rw [if_pos k4, if_pos (h5 k4)]
  rw [if_neg k4]
  by_cases k5 : e.k = 5
  · rw [if_pos k5, if_neg (by simp [h6 k5])]
  rw [if_neg k5]
  by_cases k6 : e.k = 6
  · rw [if_pos k6, if_neg (by simp [(h7 k6).1, (h7 k6).2])]
  rw [if_neg k6]
theorem touch_no {a b : Ev} (h : touchB a b = false) (hk : a.k = 5 ∨ a.k = 6) : a.o ≠ b.t := by
  intro e
  have : touchB a b = true := by rcases hk with hk | hk <;> simp [touchB, hk, e]
  rw [h] at this; cases this
/-- Two events of one group that are no two mild ones are of different things. -/
theorem apart_obj {a b : Ev} (h : apartB a b = true) (hg : grp a.k = grp b.k) (h0 : grp a.k ≠ 0) (hm : mildB a.k = false ∨ mildB b.k = false) : a.o ≠ b.o := by
  obtain ⟨_, _, _, h4⟩ := apartB_iff.1 h
  rcases h4 with h | h | h | ⟨h, h'⟩
  · exact absurd h h0
  · exact absurd hg h
  · exact h
  · rcases hm with e | e
    · rw [e] at h; cases h
    · rw [e] at h'; cases h'
theorem ev_nn {e : Ev} (h : isEv e = true) : 0 ≤ e.t ∧ 0 ≤ e.o := by
  have := isEv_iff.1 h
  omega
/-- Independent events, exchanged. -/
theorem swap_two {s : St} {a b : Ev} (hA : apartB a b = true) (h1 : err s a = 0) (h2 : err (nxt s a) b = 0) : err s b = 0 ∧ err (nxt s b) a = 0 ∧ nxt (nxt s b) a = nxt (nxt s a) b := by
  obtain ⟨hne, t1, t2, _⟩ := apartB_iff.1 hA
  obtain ⟨a1, a2, a3, a4, a5, a6, a7⟩ := err0 h1
  obtain ⟨b1, b2, b3, b4, b5, b6, b7⟩ := err0 h2
  have na := ev_nn a1
  have nb := ev_nn b1
  have u1 := fun hk => touch_no t1 hk
  have u2 := fun hk => touch_no t2 hk
  have lk : (a.k = 3 ∨ a.k = 4) → (b.k = 3 ∨ b.k = 4) → a.o.toNat ≠ b.o.toNat := by
    intro ha hb
    have := apart_obj hA (by rcases ha with e | e <;> rcases hb with e' | e' <;> simp [grp, e, e']) (by rcases ha with e | e <;> simp [grp, e]) (.inl (by rcases ha with e | e <;> simp [mildB, e]))
    omega
  have fk : (a.k = 5 ∨ a.k = 6) → (b.k = 5 ∨ b.k = 6) → (a.k = 5 ∨ b.k = 5) → a.o.toNat ≠ b.o.toNat := by
    intro ha hb hc
    have := apart_obj hA (by rcases ha with e | e <;> rcases hb with e' | e' <;> simp [grp, e, e']) (by rcases ha with e | e <;> simp [grp, e]) (by rcases hc with e | e <;> simp [mildB, e])
    omega
  rw [nxt_begun_iff] at b2
  rw [nxt_over_iff] at b3
  rw [nxt_owner_iff] at b4 b5
  rw [nxt_begun_iff] at b6 b7
  simp only [Bool.or_eq_false_iff, Bool.and_eq_false_iff, decide_eq_false_iff_not] at b3 b6
  simp only [Bool.or_eq_true, Bool.and_eq_true, decide_eq_true_eq] at b2 b7
  refine ⟨err_ok b1 ?_ b3.1 ?_ ?_ (fun k5 => (b6 k5).1) ?_, err_ok a1 ?_ ?_ ?_ ?_ ?_ ?_, ?_⟩
  · rcases b2 with h | ⟨h, h'⟩
    · exact h
    · have := u1 (.inl h); omega
  · intro k3
    have := b4 k3
    rwa [if_neg (fun hh => lk hh.1 (.inl k3) hh.2.symm)] at this
  · intro k4
    have := b5 k4
    rwa [if_neg (fun hh => lk hh.1 (.inr k4) hh.2.symm)] at this
  · intro k6
    obtain ⟨h, h'⟩ := b7 k6
    refine ⟨?_, h'⟩
    rcases h with h | ⟨h, h2⟩
    · exact h
    · exact absurd h2.symm (fk (.inl h) (.inr k6) (.inl h))
  · rw [nxt_begun_iff, a2]; rfl
  · rw [nxt_over_iff, a3]
    simp only [Bool.false_or, Bool.and_eq_false_iff, decide_eq_false_iff_not]
    by_cases k6 : b.k = 6
    · right
      have := u2 (.inr k6)
      omega
    · exact .inl k6
  · intro k3
    rw [nxt_owner_iff, if_neg (fun hh => lk (.inl k3) hh.1 hh.2)]
    exact a4 k3
  · intro k4
    rw [nxt_owner_iff, if_neg (fun hh => lk (.inr k4) hh.1 hh.2)]
    exact a5 k4
  · intro k5
    rw [nxt_begun_iff, a6 k5]
    simp only [Bool.false_or, Bool.and_eq_false_iff, decide_eq_false_iff_not]
    by_cases e : b.k = 5
    · exact .inr (fk (.inl k5) (.inl e) (.inl k5))
    · exact .inl e
  · intro k6
    obtain ⟨h, h'⟩ := a7 k6
    rw [nxt_begun_iff, h]
    exact ⟨rfl, h'⟩
  · have e1 : (nxt (nxt s b) a).begun = (nxt (nxt s a) b).begun := by
      funext j
      simp only [nxt_begun_iff]
      cases s.begun j <;> cases decide (a.k = 5) <;> cases decide (b.k = 5) <;> cases decide (j = a.o.toNat) <;> cases decide (j = b.o.toNat) <;> rfl
    have e2 : (nxt (nxt s b) a).over = (nxt (nxt s a) b).over := by
      funext j
      simp only [nxt_over_iff]
      cases s.over j <;> cases decide (a.k = 6) <;> cases decide (b.k = 6) <;> cases decide (j = a.o.toNat) <;> cases decide (j = b.o.toNat) <;> rfl
    have e3 : (nxt (nxt s b) a).owner = (nxt (nxt s a) b).owner := by
      funext j
      simp only [nxt_owner_iff]
      by_cases ha : (a.k = 3 ∨ a.k = 4) ∧ j = a.o.toNat
      · have hb : ¬ ((b.k = 3 ∨ b.k = 4) ∧ j = b.o.toNat) := fun hh => lk ha.1 hh.1 (ha.2.symm.trans hh.2)
        rw [if_pos ha, if_neg hb, if_pos ha]
      · rw [if_neg ha, if_neg ha]
    generalize nxt (nxt s b) a = x at *
    generalize nxt (nxt s a) b = y at *
    cases x; cases y
    simp only at e1 e2 e3
    subst e1 e2 e3
    rfl
theorem playL_swap (u v : List Ev) (a b : Ev) (hA : apartB a b = true) (s : St) (i : Nat) (h : (playL s i (u ++ a :: b :: v)).2.2 = 0) :
    (playL s i (u ++ b :: a :: v)).2.2 = 0 ∧ (playL s i (u ++ b :: a :: v)).1 = (playL s i (u ++ a :: b :: v)).1 := by
  rw [playL_append] at h
  rw [playL_append, playL_append]
  split at h
  · rename_i h0
    rw [if_pos h0, if_pos h0]
    simp only [playL] at h ⊢
    split at h
    · rename_i h1
      split at h
      · rename_i h2
        obtain ⟨e1, e2, e3⟩ := swap_two hA h1 h2
        rw [if_pos h1, if_pos h2, if_pos e1, if_pos e2, e3]
        exact ⟨h, rfl⟩
      · rename_i h2; exact absurd h h2
    · rename_i h1; exact absurd h h1
  · rename_i h0; exact absurd h h0
/-- A trace, two neighbours swapped. -/
def sw (l : List Ev) (i : Nat) : List Ev := (l.set i (l.getD (i + 1) ⟨0, 0, 0⟩)).set (i + 1) (l.getD i ⟨0, 0, 0⟩)
theorem sw_len (l : List Ev) (i : Nat) : (sw l i).length = l.length := by simp [sw]
theorem sw_parts {l : List Ev} {i : Nat} (h : i + 1 < l.length) : l = l.take i ++ l[i] :: l[i + 1] :: l.drop (i + 2) ∧ sw l i = l.take i ++ l[i + 1] :: l[i] :: l.drop (i + 2) := by
  have h1 : l = l.take i ++ l[i] :: l[i + 1] :: l.drop (i + 2) := by
    rw [← List.drop_eq_getElem_cons h, ← List.drop_eq_getElem_cons (show i < l.length by omega), List.take_append_drop]
  refine ⟨h1, ?_⟩
  have hl : (l.take i).length = i := by simp; omega
  have g1 : l.getD (i + 1) ⟨0, 0, 0⟩ = l[i + 1] := by simp [List.getD, h]
  have g0 : l.getD i ⟨0, 0, 0⟩ = l[i] := by simp [List.getD, show i < l.length by omega]
  unfold sw
  rw [g1, g0]
  generalize l[i + 1] = b at *
  generalize l[i] = a at *
  generalize l.drop (i + 2) = v at *
  generalize hu : l.take i = u at *
  rw [h1, List.set_append_right _ _ (by omega), List.set_append_right _ _ (by omega), hl]
  simp
theorem sw_sw {l : List Ev} {i : Nat} (h : i + 1 < l.length) : sw (sw l i) i = l := by
  obtain ⟨h1, h2⟩ := sw_parts h
  obtain ⟨h3, h4⟩ := sw_parts (l := sw l i) (i := i) (by rw [sw_len]; exact h)
  have hl : (l.take i).length = i := by simp; omega
  have hb : ((sw l i)[i]'(by rw [sw_len]; omega)) = l[i + 1] := by
    simp only [h2]
    rw [List.getElem_append_right (by omega)]
    simp [hl]
  have ha : ((sw l i)[i + 1]'(by rw [sw_len]; omega)) = l[i] := by
    simp only [h2]
    rw [List.getElem_append_right (by omega)]
    simp [hl]
  have ht : (sw l i).take i = l.take i := by rw [h2, List.take_append_of_le_length (by omega), List.take_of_length_le (by omega)]
  have hd : (sw l i).drop (i + 2) = l.drop (i + 2) := by
    rw [h2, List.drop_append, hl, List.drop_eq_nil_of_le (by omega), show i + 2 - i = 2 by omega]
    rfl
  rw [h4, ha, hb, ht, hd]
  exact h1.symm
theorem played_sw {l : List Ev} {i : Nat} (h : i + 1 < l.length) (hA : apartB l[i] l[i + 1] = true) (hp : (played l).2.2 = 0) : (played (sw l i)).2.2 = 0 ∧ (played (sw l i)).1 = (played l).1 := by
  have hl := (played_evs hp).1
  obtain ⟨h1, h2⟩ := sw_parts h
  rw [played_small hl] at hp ⊢
  rw [played_small (by rw [sw_len]; exact hl), h2]
  rw [h1] at hp
  have := playL_swap _ _ _ _ hA _ _ hp
  rw [← h1] at this
  exact this
theorem sw_thread {l : List Ev} {i : Nat} (h : i + 1 < l.length) (hA : apartB l[i] l[i + 1] = true) (t : Int) : (sw l i).filter (fun e => decide (e.t = t)) = l.filter fun e => decide (e.t = t) := by
  obtain ⟨h1, h2⟩ := sw_parts h
  have hne := (apartB_iff.1 hA).1
  have e1 : l.filter (fun e => decide (e.t = t)) = (l.take i ++ l[i] :: l[i + 1] :: l.drop (i + 2)).filter fun e => decide (e.t = t) := by rw [← h1]
  rw [e1, h2, List.filter_append, List.filter_append, List.filter_cons, List.filter_cons, List.filter_cons, List.filter_cons]
  by_cases ea : l[i].t = t <;> by_cases eb : l[i + 1].t = t
  · exact absurd (ea.trans eb.symm) hne
  · simp [ea, eb]
  · simp [ea, eb]
  · simp [ea, eb]
theorem sw_ne {l : List Ev} {i : Nat} (h : i + 1 < l.length) (hA : apartB l[i] l[i + 1] = true) : sw l i ≠ l := by
  obtain ⟨h1, h2⟩ := sw_parts h
  intro e
  have hl : (l.take i).length = i := by simp; omega
  have hb : ((sw l i)[i]'(by rw [sw_len]; omega)) = l[i + 1] := by
    simp only [h2]
    rw [List.getElem_append_right (by omega)]
    simp [hl]
  have : l[i] = l[i + 1] := by rw [← hb]; simp only [e]
  rw [this, apartB_self] at hA
  cases hA
theorem sw_apart {l : List Ev} {i : Nat} (h : i + 1 < l.length) : apartB ((sw l i)[i]'(by rw [sw_len]; omega)) ((sw l i)[i + 1]'(by rw [sw_len]; omega)) = apartB l[i] l[i + 1] := by
  obtain ⟨h1, h2⟩ := sw_parts h
  have hl : (l.take i).length = i := by simp; omega
  have hb : ((sw l i)[i]'(by rw [sw_len]; omega)) = l[i + 1] := by
    simp only [h2]
    rw [List.getElem_append_right (by omega)]
    simp [hl]
  have ha : ((sw l i)[i + 1]'(by rw [sw_len]; omega)) = l[i] := by
    simp only [h2]
    rw [List.getElem_append_right (by omega)]
    simp [hl]
  rw [ha, hb, apartB_symm]
end Go.Proofs.Ytmeidjhojanogaa
