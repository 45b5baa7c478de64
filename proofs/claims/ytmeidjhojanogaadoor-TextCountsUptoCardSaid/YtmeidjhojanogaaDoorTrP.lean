/- Plain laws of traces: prefixes, appended events, errors. No program. -/
import Derived.Test.YtmeidjhojanogaaDoorTr
namespace Go.Proofs.YtmeidjhojanogaaDoor

theorem playL_append (m : List Ev) : ∀ (l : List Ev) (s : St) (i : Nat), playL s i (l ++ m) = if (playL s i l).2.2 = 0 then playL (playL s i l).1 (i + l.length) m else playL s i l
  | [], s, i => by simp [playL]
  | e :: l, s, i => by
    simp only [List.cons_append, playL]
    split
    · rw [playL_append m l]
      simp only [List.length_cons, show i + (l.length + 1) = i + 1 + l.length by omega]
    · simp
theorem playL_at0 : ∀ (l : List Ev) (s : St) (i : Nat), (playL s i l).2.2 = 0 → (playL s i l).2.1 = 0
  | [], s, i, _ => rfl
  | e :: l, s, i, h => by
    simp only [playL] at *
    split
    · rename_i he; rw [if_pos he] at h; exact playL_at0 l _ _ h
    · rename_i he; rw [if_neg he] at h; exact absurd h he
theorem playL_ok_prefix {l m : List Ev} {s : St} {i : Nat} (h : (playL s i (l ++ m)).2.2 = 0) : (playL s i l).2.2 = 0 := by
  rw [playL_append] at h
  split at h
  · assumption
  · assumption
theorem playL_ok_take {l : List Ev} {s : St} {i : Nat} (n : Nat) (h : (playL s i l).2.2 = 0) : (playL s i (l.take n)).2.2 = 0 := by
  rw [← List.take_append_drop n l] at h
  exact playL_ok_prefix h
/-- Where a list is wrong: all ahead of it is right, and up to it it is as wrong. -/
theorem playL_err : ∀ (l : List Ev) (s : St) (i : Nat), (playL s i l).2.2 ≠ 0 → ∃ j, j < l.length ∧ (playL s i l).2.1 = i + j ∧ (playL s i (l.take j)).2.2 = 0 ∧ playL s i (l.take (j + 1)) = playL s i l
  | [], s, i, h => absurd rfl h
  | e :: l, s, i, h => by
    by_cases he : err s e = 0
    · simp only [playL, he, if_true] at h ⊢
      obtain ⟨j, hj, h1, h2, h3⟩ := playL_err l (nxt s e) (i + 1) h
      refine ⟨j + 1, by simpa using hj, by rw [h1]; omega, ?_, ?_⟩
      · simp only [List.take_succ_cons, playL, he, if_true]; exact h2
      · simp only [List.take_succ_cons, playL, he, if_true]; exact h3
    · refine ⟨0, by simp, ?_, ?_, ?_⟩ <;> simp [playL, he]
theorem err_vals (s : St) (e : Ev) : err s e = 0 ∨ err s e = 1 ∨ err s e = 11 ∨ err s e = 9 ∨ err s e = 10 ∨ err s e = 8 ∨ err s e = 7 := by
  unfold err
  (repeat' split) <;> simp
theorem playL_ne2 : ∀ (l : List Ev) (s : St) (i : Nat), (playL s i l).2.2 ≠ 2
  | [], s, i => by simp [playL]
  | e :: l, s, i => by
    simp only [playL]
    split
    · exact playL_ne2 l _ _
    · have := err_vals s e
      show err s e ≠ 2
      omega
def mayB (l : List Ev) : Bool := (played l).2.2 == 0
theorem mayB_iff {l : List Ev} : mayB l = true ↔ l.length ≤ 80 ∧ (playL St.first 0 l).2.2 = 0 := by
  unfold mayB played
  split
  · simp; omega
  · simp; omega
theorem played_large {l : List Ev} : (played l).2.2 = 2 ↔ 80 < l.length := by
  unfold played
  split
  · simp; omega
  · simp only [playL_ne2, false_iff]; omega
theorem played_at {l : List Ev} (h : (played l).2.2 = 0 ∨ (played l).2.2 = 2) : (played l).2.1 = 0 := by
  unfold played at *
  split
  · rfl
  · rename_i hl
    rw [if_neg hl] at h
    rcases h with h | h
    · exact playL_at0 _ _ _ h
    · exact absurd h (playL_ne2 _ _ _)
theorem mayB_take {l : List Ev} (n : Nat) (h : mayB l = true) : mayB (l.take n) = true := by
  obtain ⟨h1, h2⟩ := mayB_iff.1 h
  exact mayB_iff.2 ⟨by simp; omega, playL_ok_take n h2⟩
theorem played_small {l : List Ev} (h : l.length ≤ 80) : played l = playL St.first 0 l := by simp [played]; omega
/-- An error that is no matter of length: its place is in the list; ahead of it the list is right, with it it is not. -/
theorem played_err {l : List Ev} (h0 : (played l).2.2 ≠ 0) (h2 : (played l).2.2 ≠ 2) : (played l).2.1 < l.length ∧ mayB (l.take (played l).2.1) = true ∧ mayB (l.take ((played l).2.1 + 1)) = false := by
  have hl : l.length ≤ 80 := by
    by_cases h : l.length ≤ 80
    · exact h
    · exact absurd (played_large.2 (by omega)) h2
  rw [played_small hl] at *
  obtain ⟨j, hj, h1, h3, h4⟩ := playL_err l St.first 0 h0
  rw [h1, Nat.zero_add]
  refine ⟨hj, mayB_iff.2 ⟨by simp; omega, h3⟩, ?_⟩
  rw [Bool.eq_false_iff]
  intro hm
  have := (mayB_iff.1 hm).2
  rw [h4] at this
  exact h0 this
end Go.Proofs.YtmeidjhojanogaaDoor
