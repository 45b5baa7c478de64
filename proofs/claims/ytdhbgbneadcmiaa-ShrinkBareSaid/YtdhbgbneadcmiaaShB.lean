/- A trace from which nothing can be left out consists of two racing accesses and Forks. No program. -/
import Derived.Test.YtdhbgbneadcmiaaShr
import Derived.Test.YtdhbgbneadcmiaaRacQ
namespace Go.Proofs.Ytdhbgbneadcmiaa

theorem sim_play {Rl : St → St → Prop} {P : Ev → Prop} (hs : ∀ s s' e, Rl s s' → P e → err s e = 0 → err s' e = 0 ∧ Rl (nxt s e) (nxt s' e)) : ∀ (l : List Ev) (s s' : St) (i i' : Nat), Rl s s' → (∀ e ∈ l, P e) → (playL s i l).2.2 = 0 → (playL s' i' l).2.2 = 0
  | [], _, _, _, _, _, _, _ => rfl
  | e :: l, s, s', i, i', hR, hP, h => by
    simp only [playL] at h ⊢
    by_cases he : err s e = 0
    · rw [if_pos he] at h
      obtain ⟨h1, h2⟩ := hs s s' e hR (hP e (List.mem_cons_self ..)) he
      rw [if_pos h1]
      exact sim_play hs l _ _ _ _ h2 (fun e he => hP e (List.mem_cons_of_mem _ he)) h
    · rw [if_neg he] at h
      exact absurd h he
theorem erase_split {l : List Ev} {d : Nat} (hd : d < l.length) : l = l.take d ++ evAt l d :: l.drop (d + 1) ∧ l.eraseIdx d = l.take d ++ l.drop (d + 1) := by
  constructor
  · rw [evAt_lt hd, ← List.drop_eq_getElem_cons hd, List.take_append_drop]
  · exact List.eraseIdx_eq_take_drop_succ ..
theorem erase_ok {l : List Ev} {d : Nat} (hd : d < l.length) (hp : (played l).2.2 = 0) (Rl : St → St → Prop) (P : Ev → Prop) (hs : ∀ s s' e, Rl s s' → P e → err s e = 0 → err s' e = 0 ∧ Rl (nxt s e) (nxt s' e))
    (hR : ∀ s, err s (evAt l d) = 0 → Rl (nxt s (evAt l d)) s) (hP : ∀ e ∈ l.drop (d + 1), P e) : (played (l.eraseIdx d)).2.2 = 0 := by
  have hl := (played_evs hp).1
  obtain ⟨e1, e2⟩ := erase_split hd
  have hl2 : (l.eraseIdx d).length ≤ 80 := by rw [List.length_eraseIdx]; split <;> omega
  rw [played_small hl2]
  rw [played_small hl] at hp
  rw [e1, playL_append] at hp
  rw [e2, playL_append]
  generalize l.take d = a at *
  generalize l.drop (d + 1) = b at *
  generalize evAt l d = e at *
  by_cases h0 : (playL St.first 0 a).2.2 = 0
  · rw [if_pos h0] at hp ⊢
    simp only [playL] at hp
    by_cases he : err (playL St.first 0 a).1 e = 0
    · rw [if_pos he] at hp
      exact sim_play hs b _ _ _ _ (hR _ he) hP hp
    · rw [if_neg he] at hp
      exact absurd hp he
  · rw [if_neg h0] at hp
    exact absurd hp h0
/-- Neither a lock nor a thread. -/
theorem erase_plain {l : List Ev} {d : Nat} (hd : d < l.length) (hp : (played l).2.2 = 0) (hk : ¬ ((evAt l d).k = 3 ∨ (evAt l d).k = 4 ∨ (evAt l d).k = 5 ∨ (evAt l d).k = 6)) : (played (l.eraseIdx d)).2.2 = 0 := by
  refine erase_ok hd hp (fun s s' => s' = s) (fun _ => True) (fun s s' e h _ he => by subst h; exact ⟨he, rfl⟩) (fun s _ => ?_) (fun _ _ => trivial)
  unfold nxt
  rw [if_neg (by omega), if_neg (by omega), if_neg (by omega), if_neg (by omega)]
theorem erase_last {l : List Ev} {d : Nat} (hd : d + 1 = l.length) (hp : (played l).2.2 = 0) : (played (l.eraseIdx d)).2.2 = 0 :=
  erase_ok (by omega) hp (fun _ _ => True) (fun _ => False) (fun _ _ _ _ h _ => h.elim) (fun _ _ => trivial) (fun e he => by rw [List.drop_eq_nil_of_le (by omega)] at he; cases he)
theorem erase_join {l : List Ev} {d : Nat} (hd : d < l.length) (hp : (played l).2.2 = 0) (hk : (evAt l d).k = 6) : (played (l.eraseIdx d)).2.2 = 0 := by
  refine erase_ok hd hp (fun s s' => s'.begun = s.begun ∧ s'.owner = s.owner ∧ ∀ j, s'.over j = true → s.over j = true) (fun _ => True) (fun s s' e h _ he => ?_) (fun s _ => ?_) (fun _ _ => trivial)
  · obtain ⟨h1, h2, h3⟩ := h
    obtain ⟨b, o, w⟩ := s
    obtain ⟨b', o', w'⟩ := s'
    simp only at h1 h2 h3
    subst h1; subst h2
    constructor
    · unfold err at he ⊢
      simp only at he ⊢
      by_cases c1 : isEv e = false
      · rw [if_pos c1] at he; cases he
      · rw [if_neg c1] at he ⊢
        by_cases c2 : b' e.t.toNat = false ∨ o e.t.toNat = true
        · rw [if_pos c2] at he; cases he
        · rw [if_neg c2] at he
          rw [if_neg (fun c3 => c2 (c3.imp id (h3 _)))]
          exact he
    · unfold nxt
      split
      · exact ⟨rfl, rfl, h3⟩
      · split
        · exact ⟨rfl, rfl, h3⟩
        · split
          · exact ⟨rfl, rfl, h3⟩
          · split
            · refine ⟨rfl, rfl, fun j hj => ?_⟩
              simp only [updB] at hj ⊢
              split
              · rfl
              · rename_i c; rw [if_neg c] at hj; exact h3 j hj
            · exact ⟨rfl, rfl, h3⟩
  · unfold nxt
    rw [if_neg (by omega), if_neg (by omega), if_neg (by omega), if_pos hk]
    refine ⟨rfl, rfl, fun j hj => ?_⟩
    simp only [updB]
    split
    · rfl
    · exact hj
theorem erase_lock {l : List Ev} {d : Nat} (hd : d < l.length) (hp : (played l).2.2 = 0) (hk : (evAt l d).k = 3 ∨ (evAt l d).k = 4) (hn : ∀ e ∈ l.drop (d + 1), e.k ≠ 3 ∧ e.k ≠ 4) : (played (l.eraseIdx d)).2.2 = 0 := by
  refine erase_ok hd hp (fun s s' => s'.begun = s.begun ∧ s'.over = s.over) (fun e => e.k ≠ 3 ∧ e.k ≠ 4) (fun s s' e h hne he => ?_) (fun s _ => ?_) hn
  · obtain ⟨h1, h2⟩ := h
    obtain ⟨b, o, w⟩ := s
    obtain ⟨b', o', w'⟩ := s'
    simp only at h1 h2
    subst h1; subst h2
    unfold err at he ⊢
    unfold nxt
    rw [if_neg hne.1, if_neg hne.2] at *
    refine ⟨?_, ?_⟩
    · simp only [hne.1, hne.2, if_false] at he ⊢
      exact he
    · repeat' split
      all_goals exact ⟨rfl, rfl⟩
  · unfold nxt
    rcases hk with hk | hk
    · rw [if_pos hk]; exact ⟨rfl, rfl⟩
    · rw [if_neg (by omega), if_pos hk]; exact ⟨rfl, rfl⟩
/-- What a trace is from which nothing can be left out. -/
structure Bare (m : List Ev) (i j : Nat) : Prop where
  lt : i < j
  last : j + 1 = m.length
  race : raceB m i j = true
  forks : ∀ d, d < m.length → d ≠ i → d ≠ j → (evAt m d).k = 5
theorem bare_of {m : List Ev} (hr : Racy m) (hn : ∀ d, d < m.length → shOk m d = false) : ∃ i j, Bare m i j := by
  have hp := hr.ok
  obtain ⟨r, hr1⟩ := List.exists_mem_of_ne_nil _ hr.race
  obtain ⟨i, j, _, hij, hj, hB⟩ := mem_raceL.1 hr1
  obtain ⟨a1, a2, _⟩ := raceB_iff.1 hB
  -- none of the others can go
  have hno : ∀ d, d < m.length → d ≠ i → d ≠ j → (played (m.eraseIdx d)).2.2 ≠ 0 := by
    intro d hd h1 h2 h0
    have hx : ∀ x, x ≠ d → ∃ y, up d y = x := fun x hx => by
      by_cases c : x < d
      · exact ⟨x, by unfold up; rw [if_pos c]⟩
      · exact ⟨x - 1, by unfold up; rw [if_neg (by omega)]; omega⟩
    obtain ⟨i', e1⟩ := hx i (fun e => h1 e.symm)
    obtain ⟨j', e2⟩ := hx j (fun e => h2 e.symm)
    have hB2 : raceB (m.eraseIdx d) i' j' = true := race_erase (by rw [e1, e2]; exact hB)
    have hl : (m.eraseIdx d).length = m.length - 1 := by rw [List.length_eraseIdx, if_pos hd]
    have hj' : j' < m.length - 1 := by
      unfold up at e2
      split at e2 <;> omega
    have hm : raceOf (m.eraseIdx d) i' j' ∈ raceL (m.eraseIdx d) := mem_raceL.2 ⟨i', j', rfl, up_lt.1 (by rw [e1, e2]; exact hij), by omega, hB2⟩
    have := shOk_of (l := m) (i := d) ⟨h0, fun e => by rw [e] at hm; cases hm⟩
    rw [hn d hd] at this
    cases this
  have hlast : j + 1 = m.length := by
    by_cases e : j + 1 = m.length
    · exact e
    · exact absurd (erase_last (d := m.length - 1) (by omega) hp) (hno _ (by omega) (by omega) (by omega))
  have hk : ∀ d, d < m.length → d ≠ i → d ≠ j → (evAt m d).k = 3 ∨ (evAt m d).k = 4 ∨ (evAt m d).k = 5 := by
    intro d hd h1 h2
    by_cases c : (evAt m d).k = 3 ∨ (evAt m d).k = 4 ∨ (evAt m d).k = 5 ∨ (evAt m d).k = 6
    · by_cases c6 : (evAt m d).k = 6
      · exact absurd (erase_join hd hp c6) (hno d hd h1 h2)
      · omega
    · exact absurd (erase_plain hd hp c) (hno d hd h1 h2)
  have a1' := isAcc_iff.1 a1
  have a2' := isAcc_iff.1 a2
  -- no locks: else the last one can go
  have hlk : ∀ n, ∀ d, d < m.length → m.length - d ≤ n → ¬ ((evAt m d).k = 3 ∨ (evAt m d).k = 4) := by
    intro n
    induction n with
    | zero => intro d hd h1; omega
    | succ n ih =>
      intro d hd h1 h2
      refine hno d hd (fun e => by subst e; omega) (fun e => by subst e; omega) (erase_lock hd hp h2 fun e he => ?_)
      obtain ⟨q, hq, rfl⟩ := List.mem_iff_getElem.1 he
      rw [List.getElem_drop]
      have hq' : d + 1 + q < m.length := by simp at hq; omega
      have := ih (d + 1 + q) hq' (by omega)
      rw [evAt_lt hq'] at this
      omega
  refine ⟨i, j, hij, hlast, hB, fun d hd h1 h2 => ?_⟩
  have h3 := hk d hd h1 h2
  have h4 := hlk m.length d hd (by omega)
  omega
/-- Of Forks there are no more than five. -/
def forksTo (m : List Ev) (n : Nat) : Nat := ((m.take n).filter fun e => decide (e.k = 5)).length
def begunTo (s : St) : Nat := ((List.range 6).filter s.begun).length
theorem begun_fork (b : Nat → Bool) {o : Nat} (h6 : o < 6) (hb : b o = false) : ((List.range 6).filter (updB b o)).length = ((List.range 6).filter b).length + 1 := by
  have e : List.range 6 = [0, 1, 2, 3, 4, 5] := rfl
  rw [e]
  rcases (show o = 0 ∨ o = 1 ∨ o = 2 ∨ o = 3 ∨ o = 4 ∨ o = 5 by omega) with rfl | rfl | rfl | rfl | rfl | rfl
  all_goals
    cases h0 : b 0 <;> cases h1 : b 1 <;> cases h2 : b 2 <;> cases h3 : b 3 <;> cases h4 : b 4 <;> cases h5 : b 5
    all_goals first | (simp_all [updB]; done) | (exfalso; simp_all)
theorem forks_begun {m : List Ev} (hp : (played m).2.2 = 0) : ∀ n, n ≤ m.length → begunTo (stAt m n) = 1 + forksTo m n
  | 0, _ => by simp [begunTo, forksTo, stFrom, St.first]; decide
  | n + 1, h => by
    have ih := forks_begun hp n (by omega)
    have hs := stFrom_succ St.first m n (by omega)
    rw [show stAt m (n + 1) = nxt (stAt m n) (evAt m n) from hs]
    have hf : forksTo m (n + 1) = forksTo m n + if (evAt m n).k = 5 then 1 else 0 := by
      unfold forksTo
      rw [List.take_add_one, List.getElem?_eq_getElem (by omega), Option.toList_some, List.filter_append, List.length_append, evAt_lt (by omega)]
      by_cases c : (m[n]'(by omega)).k = 5 <;> simp [c]
    rw [hf]
    by_cases c : (evAt m n).k = 5
    · rw [if_pos c]
      have e1 := (err0 ((ok_at hp).1 n (by omega))).2.2.2.2.2.1 c
      have e2 := ev_at hp (show n < m.length by omega)
      have h6 : (evAt m n).o.toNat < 6 := by
        have := e2.2.2.2
        rw [c] at this
        have e3 : manyOf 5 = 6 := by decide
        omega
      have : begunTo (nxt (stAt m n) (evAt m n)) = begunTo (stAt m n) + 1 := by
        unfold begunTo nxt
        rw [if_neg (by omega), if_neg (by omega), if_pos c]
        exact begun_fork _ h6 e1
      omega
    · rw [if_neg c]
      have : begunTo (nxt (stAt m n) (evAt m n)) = begunTo (stAt m n) := by
        unfold begunTo nxt
        (repeat' split) <;> first | rfl | omega
      omega
theorem bare_len {m : List Ev} {i j : Nat} (hp : (played m).2.2 = 0) (hb : Bare m i j) : m.length ≤ 7 := by
  have h1 := forks_begun hp m.length (Nat.le_refl _)
  have h2 : begunTo (stAt m m.length) ≤ 6 := by
    unfold begunTo
    have := List.length_filter_le (stAt m m.length).begun (List.range 6)
    simpa using this
  have h3 : ∀ n, n ≤ m.length → n ≤ forksTo m n + (if i < n then 1 else 0) + (if j < n then 1 else 0) := by
    intro n
    induction n with
    | zero => intro _; omega
    | succ n ih =>
      intro hn
      have ih := ih (by omega)
      have hf : forksTo m (n + 1) = forksTo m n + if (evAt m n).k = 5 then 1 else 0 := by
        unfold forksTo
        rw [List.take_add_one, List.getElem?_eq_getElem (by omega), Option.toList_some, List.filter_append, List.length_append, evAt_lt (by omega)]
        by_cases c : (m[n]'(by omega)).k = 5 <;> simp [c]
      rw [hf]
      by_cases c1 : n = i
      · subst c1
        have := hb.lt
        repeat' split
        all_goals repeat' split at ih
        all_goals omega
      · by_cases c2 : n = j
        · subst c2
          repeat' split
          all_goals repeat' split at ih
          all_goals omega
        · rw [if_pos (hb.forks n (by omega) c1 c2)]
          repeat' split
          all_goals repeat' split at ih
          all_goals omega
  have h4 := h3 m.length (Nat.le_refl _)
  have := hb.lt
  have := hb.last
  rw [if_pos (by omega), if_pos (by omega)] at h4
  omega
theorem bare_one {m : List Ev} {i j : Nat} (hb : Bare m i j) : (raceL m).length = 1 := by
  have hnd : ((raceL m).map prOf).Nodup := by
    have : (raceL m).map prOf = allP (raceB m) m.length m.length := allR_pr m m.length m.length
    rw [this]
    exact (allP_nodup _ _ _).1
  have hall : ∀ r ∈ raceL m, r = raceOf m i j := by
    intro r hr
    obtain ⟨a, b, rfl, hab, hbl, hB⟩ := mem_raceL.1 hr
    obtain ⟨r1, r2, _⟩ := raceB_iff.1 hB
    have r1 := isAcc_iff.1 r1
    have r2 := isAcc_iff.1 r2
    have hlt := hb.lt
    have h1 : a = i ∨ a = j := by
      by_cases c1 : a = i
      · exact .inl c1
      · by_cases c2 : a = j
        · exact .inr c2
        · have := hb.forks a (by omega) c1 c2; omega
    have h2 : b = i ∨ b = j := by
      by_cases c1 : b = i
      · exact .inl c1
      · by_cases c2 : b = j
        · exact .inr c2
        · have := hb.forks b hbl c1 c2; omega
    obtain rfl : a = i := by omega
    obtain rfl : b = j := by omega
    rfl
  have hmem : raceOf m i j ∈ raceL m := mem_raceL.2 ⟨i, j, rfl, hb.lt, by have := hb.last; omega, hb.race⟩
  generalize raceL m = L at *
  cases L with
  | nil => cases hmem
  | cons x L =>
    cases L with
    | nil => rfl
    | cons y L =>
      have e1 := hall x (List.mem_cons_self ..)
      have e2 := hall y (List.mem_cons_of_mem _ (List.mem_cons_self ..))
      rw [e1, e2] at hnd
      simp at hnd
end Go.Proofs.Ytdhbgbneadcmiaa
