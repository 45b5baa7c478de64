/- Plain laws of traces: who has begun; who owns a lock. No program. -/
import Derived.Test.YtmeidjhojanogaaDoorTrP
import Derived.Test.YtmeidjhojanogaaDoorLists
namespace Go.Proofs.YtmeidjhojanogaaDoor

theorem err0 {s : St} {e : Ev} (h : err s e = 0) : isEv e = true ∧ s.begun e.t.toNat = true ∧ s.over e.t.toNat = false ∧
    (e.k = 3 → s.owner e.o.toNat = 0) ∧ (e.k = 4 → s.owner e.o.toNat = e.t + 1) ∧ (e.k = 5 → s.begun e.o.toNat = false) ∧ (e.k = 6 → s.begun e.o.toNat = true ∧ e.o ≠ e.t) := by
  unfold err at h
  by_cases h1 : isEv e = false
  · rw [if_pos h1] at h; omega
  rw [if_neg h1] at h
  by_cases h2 : s.begun e.t.toNat = false ∨ s.over e.t.toNat = true
  · rw [if_pos h2] at h; omega
  rw [if_neg h2] at h
  have h2' : s.begun e.t.toNat = true ∧ s.over e.t.toNat = false := by
    constructor
    · cases hb : s.begun e.t.toNat <;> simp_all
    · cases hb : s.over e.t.toNat <;> simp_all
  refine ⟨by simpa using h1, h2'.1, h2'.2, ?_, ?_, ?_, ?_⟩
  · intro hk; rw [if_pos hk] at h; split at h
    · assumption
    · omega
  · intro hk; rw [if_neg (by omega), if_pos hk] at h; split at h
    · assumption
    · omega
  · intro hk; rw [if_neg (by omega), if_neg (by omega), if_pos hk] at h; split at h
    · omega
    · rename_i hn; simpa using hn
  · intro hk; rw [if_neg (by omega), if_neg (by omega), if_neg (by omega), if_pos hk] at h; split at h
    · omega
    · rename_i hn
      constructor
      · cases hb : s.begun e.o.toNat
        · exact absurd (.inl hb) hn
        · rfl
      · exact fun he => hn (.inr he)

def forksOf (l : List Ev) : Nat := (l.filter fun e => e.k == 5).length
theorem filter_upd (f : Nat → Bool) (o : Nat) (hf : f o = false) : ∀ (L : List Nat), L.Nodup → o ∈ L → (L.filter (updB f o)).length = (L.filter f).length + 1
  | [], _, h => by simp at h
  | x :: L, hn, h => by
    rw [List.nodup_cons] at hn
    by_cases hx : x = o
    · subst hx
      have h3 : L.filter (updB f x) = L.filter f := List.filter_congr fun y hy => by
        have hne : y ≠ x := by rintro rfl; exact hn.1 hy
        simp only [updB, if_neg hne]
      have h4 : updB f x x = true := by simp [updB]
      rw [List.filter_cons_of_pos h4, List.filter_cons_of_neg (by simp [hf]), h3, List.length_cons]
    · have ho : o ∈ L := by
        rcases List.mem_cons.1 h with h | h
        · exact absurd h.symm hx
        · exact h
      have ih := filter_upd f o hf L hn.2 ho
      have hu : updB f o x = f x := by simp [updB, hx]
      simp only [List.filter_cons, hu]
      split
      · simp [ih]
      · exact ih
theorem thrL_length (s : St) : (thrL s 6).length = ((List.range 6).filter s.begun).length := by simp [thrL]
theorem mem_thrL {s : St} {x : Int} : x ∈ thrL s 6 ↔ 0 ≤ x ∧ x < 6 ∧ s.begun x.toNat = true := by
  simp only [thrL, List.mem_map, List.mem_filter, List.mem_range]
  constructor
  · rintro ⟨j, ⟨h1, h2⟩, rfl⟩
    exact ⟨by omega, by omega, by simpa using h2⟩
  · rintro ⟨h1, h2, h3⟩
    exact ⟨x.toNat, ⟨by omega, h3⟩, by omega⟩
theorem nxt_begun {s : St} {e : Ev} {j : Nat} (h : s.begun j = true) : (nxt s e).begun j = true := by
  unfold nxt
  (repeat' split) <;> try exact h
  simp only [updB]; split <;> simp [h]
theorem playL_begun : ∀ (l : List Ev) (s : St) (i : Nat) (j : Nat), s.begun j = true → (playL s i l).1.begun j = true
  | [], _, _, _, h => h
  | e :: l, s, i, j, h => by
    simp only [playL]; split
    · exact playL_begun l _ _ _ (nxt_begun h)
    · exact h
/-- Of a right list: who has begun in the end. -/
theorem playL_threads : ∀ (l : List Ev) (s : St) (i : Nat), (playL s i l).2.2 = 0 →
    ((List.range 6).filter (playL s i l).1.begun).length = ((List.range 6).filter s.begun).length + forksOf l ∧
    ∀ e ∈ l, e.t ∈ thrL (playL s i l).1 6 ∧ (e.k = 5 → e.o ∈ thrL (playL s i l).1 6)
  | [], s, i, _ => by simp [playL, forksOf]
  | e :: l, s, i, h => by
    simp only [playL] at h ⊢
    by_cases he : err s e = 0
    · rw [if_pos he] at h ⊢
      obtain ⟨h1, h2⟩ := playL_threads l (nxt s e) (i + 1) h
      obtain ⟨v1, v2, v3, _, _, v6, _⟩ := err0 he
      obtain ⟨t0, t6, o0, oM⟩ := isEv_iff.1 v1
      have hcount : ((List.range 6).filter (nxt s e).begun).length = ((List.range 6).filter s.begun).length + (if e.k = 5 then 1 else 0) := by
        by_cases hk : e.k = 5
        · rw [if_pos hk]
          have hm : e.o.toNat < 6 := by simp [hk, manyOf] at oM; omega
          have : (nxt s e).begun = updB s.begun e.o.toNat := by simp [nxt, hk]
          rw [this]
          exact filter_upd s.begun _ (v6 hk) _ List.nodup_range (by simpa using hm)
        · rw [if_neg hk, Nat.add_zero]
          have : (nxt s e).begun = s.begun := by unfold nxt; (repeat' split) <;> first | rfl | omega
          rw [this]
      refine ⟨?_, ?_⟩
      · rw [h1, hcount]
        by_cases hk : e.k = 5
        · simp [forksOf, hk]; omega
        · simp [forksOf, hk]
      · intro x hx
        rcases List.mem_cons.1 hx with rfl | hx
        · refine ⟨mem_thrL.2 ⟨t0, t6, playL_begun _ _ _ _ (nxt_begun v2)⟩, fun hk => ?_⟩
          have hm : x.o < 6 := by simp [hk, manyOf] at oM; omega
          exact mem_thrL.2 ⟨o0, hm, playL_begun _ _ _ _ (by simp [nxt, hk, updB])⟩
        · exact h2 x hx
    · rw [if_neg he] at h
      exact absurd h he
end Go.Proofs.YtmeidjhojanogaaDoor
