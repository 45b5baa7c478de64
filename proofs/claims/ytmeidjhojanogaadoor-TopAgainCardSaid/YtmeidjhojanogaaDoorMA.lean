/- Joined texts. -/
import Derived.Test.YtmeidjhojanogaaDoorMS

/- Plain laws of traces: prefixes, appended events, errors. No program. -/
namespace Go.Proofs.YtmeidjhojanogaaDoor

theorem playL_append (m : List Ev) : ∀ (l : List Ev) (s : St) (i : Nat), playL s i (l ++ m) = if (playL s i l).2.2 = 0 then playL (playL s i l).1 (i + l.length) m else playL s i l
  | [], s, i => by simp [playL]
  | e :: l, s, i => by
    simp only [List.cons_append, playL]
    split
    · rw [playL_append m l]
      simp only [List.length_cons, show i + (l.length + 1) = i + 1 + l.length by omega]
    · simp
theorem playL_at0 : ∀ (l : List Ev) (s : St) (i : Nat), (playL s i l).2.2 = 0 → (playL s i l).2.1 = 0
  | [], s, i, _ => rfl
  | e :: l, s, i, h => by
    simp only [playL] at *
    split
    · rename_i he; rw [if_pos he] at h; exact playL_at0 l _ _ h
    · rename_i he; rw [if_neg he] at h; exact absurd h he
theorem playL_ok_prefix {l m : List Ev} {s : St} {i : Nat} (h : (playL s i (l ++ m)).2.2 = 0) : (playL s i l).2.2 = 0 := by
  rw [playL_append] at h
  split at h
  · assumption
  · assumption
theorem playL_ok_take {l : List Ev} {s : St} {i : Nat} (n : Nat) (h : (playL s i l).2.2 = 0) : (playL s i (l.take n)).2.2 = 0 := by
  rw [← List.take_append_drop n l] at h
  exact playL_ok_prefix h
/-- Where a list is wrong: all ahead of it is right, and up to it it is as wrong. -/
theorem playL_err : ∀ (l : List Ev) (s : St) (i : Nat), (playL s i l).2.2 ≠ 0 → ∃ j, j < l.length ∧ (playL s i l).2.1 = i + j ∧ (playL s i (l.take j)).2.2 = 0 ∧ playL s i (l.take (j + 1)) = playL s i l
  | [], s, i, h => absurd rfl h
  | e :: l, s, i, h => by
    by_cases he : err s e = 0
    · simp only [playL, he, if_true] at h ⊢
      obtain ⟨j, hj, h1, h2, h3⟩ := playL_err l (nxt s e) (i + 1) h
      refine ⟨j + 1, by simpa using hj, by rw [h1]; omega, ?_, ?_⟩
      · simp only [List.take_succ_cons, playL, he, if_true]; exact h2
      · simp only [List.take_succ_cons, playL, he, if_true]; exact h3
    · refine ⟨0, by simp, ?_, ?_, ?_⟩ <;> simp [playL, he]
theorem err_vals (s : St) (e : Ev) : err s e = 0 ∨ err s e = 1 ∨ err s e = 11 ∨ err s e = 9 ∨ err s e = 10 ∨ err s e = 8 ∨ err s e = 7 := by
  unfold err
  (repeat' split) <;> simp
theorem playL_ne2 : ∀ (l : List Ev) (s : St) (i : Nat), (playL s i l).2.2 ≠ 2
  | [], s, i => by simp [playL]
  | e :: l, s, i => by
    simp only [playL]
    split
    · exact playL_ne2 l _ _
    · have := err_vals s e
      show err s e ≠ 2
      omega
def mayB (l : List Ev) : Bool := (played l).2.2 == 0
theorem mayB_iff {l : List Ev} : mayB l = true ↔ l.length ≤ 80 ∧ (playL St.first 0 l).2.2 = 0 := by
  unfold mayB played
  split
  · simp; omega
  · simp; omega
theorem played_large {l : List Ev} : (played l).2.2 = 2 ↔ 80 < l.length := by
  unfold played
  split
  · simp; omega
  · simp only [playL_ne2, false_iff]; omega
theorem played_at {l : List Ev} (h : (played l).2.2 = 0 ∨ (played l).2.2 = 2) : (played l).2.1 = 0 := by
  unfold played at *
  split
  · rfl
  · rename_i hl
    rw [if_neg hl] at h
    rcases h with h | h
    · exact playL_at0 _ _ _ h
    · exact absurd h (playL_ne2 _ _ _)
theorem mayB_take {l : List Ev} (n : Nat) (h : mayB l = true) : mayB (l.take n) = true := by
  obtain ⟨h1, h2⟩ := mayB_iff.1 h
  exact mayB_iff.2 ⟨by simp; omega, playL_ok_take n h2⟩
theorem played_small {l : List Ev} (h : l.length ≤ 80) : played l = playL St.first 0 l := by simp [played]; omega
/-- An error that is no matter of length: its place is in the list; ahead of it the list is right, with it it is not. -/
theorem played_err {l : List Ev} (h0 : (played l).2.2 ≠ 0) (h2 : (played l).2.2 ≠ 2) : (played l).2.1 < l.length ∧ mayB (l.take (played l).2.1) = true ∧ mayB (l.take ((played l).2.1 + 1)) = false := by
  have hl : l.length ≤ 80 := by
    by_cases h : l.length ≤ 80
    · exact h
    · exact absurd (played_large.2 (by omega)) h2
  rw [played_small hl] at *
  obtain ⟨j, hj, h1, h3, h4⟩ := playL_err l St.first 0 h0
  rw [h1, Nat.zero_add]
  refine ⟨hj, mayB_iff.2 ⟨by simp; omega, h3⟩, ?_⟩
  rw [Bool.eq_false_iff]
  intro hm
  have := (mayB_iff.1 hm).2
  rw [h4] at this
  exact h0 this
end Go.Proofs.YtmeidjhojanogaaDoor

/- Lists that the contracts name. No program. -/
namespace Go.Proofs.YtmeidjhojanogaaDoor

/-- The threads that have begun. -/
def thrL (s : St) (k : Nat) : List Int := ((List.range k).filter fun i => s.begun i).map fun i : Nat => (i : Int)
theorem thrL_zero (s : St) : thrL s 0 = [] := rfl
theorem thrL_yes (s : St) (k : Nat) (h : s.begun k = true) : thrL s (k + 1) = thrL s k ++ [(k : Int)] := by simp [thrL, List.range_succ, List.filter_append, h]
theorem thrL_no (s : St) (k : Nat) (h : s.begun k = false) : thrL s (k + 1) = thrL s k := by simp [thrL, List.range_succ, List.filter_append, h]
theorem thrL_len (s : St) (k : Nat) : (thrL s k).length ≤ k := by simpa [thrL] using List.length_filter_le (fun i => s.begun i) (List.range k)
abbrev ints (l : List Int) : List Value := l.map fun n => Value.int .i64 n
end Go.Proofs.YtmeidjhojanogaaDoor

/- Plain laws of traces: who has begun; who owns a lock. No program. -/
namespace Go.Proofs.YtmeidjhojanogaaDoor

theorem err0 {s : St} {e : Ev} (h : err s e = 0) : isEv e = true ∧ s.begun e.t.toNat = true ∧ s.over e.t.toNat = false ∧
    (e.k = 3 → s.owner e.o.toNat = 0) ∧ (e.k = 4 → s.owner e.o.toNat = e.t + 1) ∧ (e.k = 5 → s.begun e.o.toNat = false) ∧ (e.k = 6 → s.begun e.o.toNat = true ∧ e.o ≠ e.t) := by
  unfold err at h
  by_cases h1 : isEv e = false
  · rw [if_pos h1] at h; omega
  rw [if_neg h1] at h
  by_cases h2 : s.begun e.t.toNat = false ∨ s.over e.t.toNat = true
  · rw [if_pos h2] at h; omega
  rw [if_neg h2] at h
  have h2' : s.begun e.t.toNat = true ∧ s.over e.t.toNat = false := by
    constructor
    · cases hb : s.begun e.t.toNat <;> simp_all
    · cases hb : s.over e.t.toNat <;> simp_all
  refine ⟨by simpa using h1, h2'.1, h2'.2, ?_, ?_, ?_, ?_⟩
  · intro hk; rw [if_pos hk] at h; split at h
    · assumption
    · omega
  · intro hk; rw [if_neg (by omega), if_pos hk] at h; split at h
    · assumption
    · omega
  · intro hk; rw [if_neg (by omega), if_neg (by omega), if_pos hk] at h; split at h
    · omega
    · rename_i hn; simpa using hn
  · intro hk; rw [if_neg (by omega), if_neg (by omega), if_neg (by omega), if_pos hk] at h; split at h
    · omega
    · rename_i hn
      constructor
      · cases hb : s.begun e.o.toNat
        · exact absurd (.inl hb) hn
        · rfl
      · exact fun he => hn (.inr he)

def forksOf (l : List Ev) : Nat := (l.filter fun e => e.k == 5).length
theorem filter_upd (f : Nat → Bool) (o : Nat) (hf : f o = false) : ∀ (L : List Nat), L.Nodup → o ∈ L → (L.filter (updB f o)).length = (L.filter f).length + 1
  | [], _, h => by simp at h
  | x :: L, hn, h => by
    rw [List.nodup_cons] at hn
    by_cases hx : x = o
    · subst hx
      have h3 : L.filter (updB f x) = L.filter f := List.filter_congr fun y hy => by
        have hne : y ≠ x := by rintro rfl; exact hn.1 hy
        simp only [updB, if_neg hne]
      have h4 : updB f x x = true := by simp [updB]
      rw [List.filter_cons_of_pos h4, List.filter_cons_of_neg (by simp [hf]), h3, List.length_cons]
    · have ho : o ∈ L := by
        rcases List.mem_cons.1 h with h | h
        · exact absurd h.symm hx
        · exact h
      have ih := filter_upd f o hf L hn.2 ho
      have hu : updB f o x = f x := by simp [updB, hx]
      simp only [List.filter_cons, hu]
      split
      · simp [ih]
      · exact ih
theorem thrL_length (s : St) : (thrL s 6).length = ((List.range 6).filter s.begun).length := by simp [thrL]
theorem mem_thrL {s : St} {x : Int} : x ∈ thrL s 6 ↔ 0 ≤ x ∧ x < 6 ∧ s.begun x.toNat = true := by
  simp only [thrL, List.mem_map, List.mem_filter, List.mem_range]
  constructor
  · rintro ⟨j, ⟨h1, h2⟩, rfl⟩
    exact ⟨by omega, by omega, by simpa using h2⟩
  · rintro ⟨h1, h2, h3⟩
    exact ⟨x.toNat, ⟨by omega, h3⟩, by omega⟩
theorem nxt_begun {s : St} {e : Ev} {j : Nat} (h : s.begun j = true) : (nxt s e).begun j = true := by
  unfold nxt
  (repeat' split) <;> try exact h
  simp only [updB]; split <;> simp [h]
theorem playL_begun : ∀ (l : List Ev) (s : St) (i : Nat) (j : Nat), s.begun j = true → (playL s i l).1.begun j = true
  | [], _, _, _, h => h
  | e :: l, s, i, j, h => by
    simp only [playL]; split
    · exact playL_begun l _ _ _ (nxt_begun h)
    · exact h
/-- Of a right list: who has begun in the end. -/
theorem playL_threads : ∀ (l : List Ev) (s : St) (i : Nat), (playL s i l).2.2 = 0 →
    ((List.range 6).filter (playL s i l).1.begun).length = ((List.range 6).filter s.begun).length + forksOf l ∧
    ∀ e ∈ l, e.t ∈ thrL (playL s i l).1 6 ∧ (e.k = 5 → e.o ∈ thrL (playL s i l).1 6)
  | [], s, i, _ => by simp [playL, forksOf]
  | e :: l, s, i, h => by
    simp only [playL] at h ⊢
    by_cases he : err s e = 0
    · rw [if_pos he] at h ⊢
      obtain ⟨h1, h2⟩ := playL_threads l (nxt s e) (i + 1) h
      obtain ⟨v1, v2, v3, _, _, v6, _⟩ := err0 he
      obtain ⟨t0, t6, o0, oM⟩ := isEv_iff.1 v1
      have hcount : ((List.range 6).filter (nxt s e).begun).length = ((List.range 6).filter s.begun).length + (if e.k = 5 then 1 else 0) := by
        by_cases hk : e.k = 5
        · rw [if_pos hk]
          have hm : e.o.toNat < 6 := by simp [hk, manyOf] at oM; omega
          have : (nxt s e).begun = updB s.begun e.o.toNat := by simp [nxt, hk]
          rw [this]
          exact filter_upd s.begun _ (v6 hk) _ List.nodup_range (by simpa using hm)
        · rw [if_neg hk, Nat.add_zero]
          have : (nxt s e).begun = s.begun := by unfold nxt; (repeat' split) <;> first | rfl | omega
          rw [this]
      refine ⟨?_, ?_⟩
      · rw [h1, hcount]
        by_cases hk : e.k = 5
        · simp [forksOf, hk]; omega
        · simp [forksOf, hk]
      · intro x hx
        rcases List.mem_cons.1 hx with rfl | hx
        · refine ⟨mem_thrL.2 ⟨t0, t6, playL_begun _ _ _ _ (nxt_begun v2)⟩, fun hk => ?_⟩
          have hm : x.o < 6 := by simp [hk, manyOf] at oM; omega
          exact mem_thrL.2 ⟨o0, hm, playL_begun _ _ _ _ (by simp [nxt, hk, updB])⟩
        · exact h2 x hx
    · rw [if_neg he] at h
      exact absurd h he
end Go.Proofs.YtmeidjhojanogaaDoor

/- A valid trace: its length and its events. -/
namespace Go.Proofs.YtmeidjhojanogaaDoor

theorem played_evs {l : List Ev} (h : (played l).2.2 = 0) : l.length ≤ 80 ∧ ∀ e ∈ l, isEv e = true := by
  have hl80 : l.length ≤ 80 := by
    by_cases hl : l.length ≤ 80
    · exact hl
    · have := played_large.2 (show 80 < l.length by omega); omega
  refine ⟨hl80, ?_⟩
  rw [played_small hl80] at h
  revert h
  generalize St.first = s
  generalize 0 = i
  clear hl80
  induction l generalizing s i with
  | nil => intro _ e he; simp at he
  | cons x l ih =>
    intro h e he
    simp only [playL] at h
    by_cases hx : err s x = 0
    · rw [if_pos hx] at h
      rcases List.mem_cons.1 he with rfl | he
      · exact (err0 hx).1
      · exact ih _ _ h e he
    · rw [if_neg hx] at h; exact absurd h hx
end Go.Proofs.YtmeidjhojanogaaDoor
