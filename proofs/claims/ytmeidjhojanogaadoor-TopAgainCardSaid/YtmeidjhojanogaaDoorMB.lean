/- Joined texts. -/
import Derived.Test.YtmeidjhojanogaaDoorMS
import Derived.Test.YtmeidjhojanogaaDoorMA

/- What is directly ahead of what; the rows of 'ahead'. No program. -/
namespace Go.Proofs.YtmeidjhojanogaaDoor

/-- Is an event directly ahead of a later one? -/
def dirE (a b : Ev) : Bool :=
  decide (a.t = b.t) || ((decide (a.k = 4 ∧ b.k = 3) || decide (a.k = 8 ∧ b.k = 7) || decide (a.k = 5 ∧ b.k = 6)) && decide (a.o = b.o)) || decide (a.k = 5 ∧ a.o = b.t) || decide (b.k = 6 ∧ b.o = a.t)
theorem dirE_iff {a b : Ev} : dirE a b = true ↔ a.t = b.t ∨ ((a.k = 4 ∧ b.k = 3 ∨ a.k = 8 ∧ b.k = 7 ∨ a.k = 5 ∧ b.k = 6) ∧ a.o = b.o) ∨ (a.k = 5 ∧ a.o = b.t) ∨ (b.k = 6 ∧ b.o = a.t) := by
  simp [dirE, or_assoc]
/-- The event at a place. -/
def evAt (l : List Ev) (i : Nat) : Ev := l.getD i ⟨0, 0, 0⟩
/-- One row of 'ahead', from place i downwards. -/
def rowDn (l : List Ev) (prev : Nat → Nat → Bool) (b : Ev) : Nat → (Nat → Bool) → (Nat → Bool)
  | 0, cur => cur
  | i + 1, cur => rowDn l prev b i (if cur i = false ∧ dirE (evAt l i) b = true then fun k => (if k = i then true else cur k) || prev i k else cur)
/-- The first j rows. -/
def rowsTo (l : List Ev) : Nat → Nat → Nat → Bool
  | 0 => fun _ _ => false
  | j + 1 => fun r k => if r = j then rowDn l (rowsTo l j) (evAt l j) j (fun _ => false) k else rowsTo l j r k
end Go.Proofs.YtmeidjhojanogaaDoor

/- A valid trace, by places: the world behind the first i events; locks, forks, joins. No program. -/
namespace Go.Proofs.YtmeidjhojanogaaDoor

/-- The world behind the first i events. -/
def stFrom (s : St) (l : List Ev) (i : Nat) : St := (l.take i).foldl nxt s
abbrev stAt (l : List Ev) (i : Nat) : St := stFrom St.first l i
theorem evAt_lt {l : List Ev} {i : Nat} (h : i < l.length) : evAt l i = l[i] := by simp [evAt, h]
theorem stFrom_succ (s : St) (l : List Ev) (i : Nat) (h : i < l.length) : stFrom s l (i + 1) = nxt (stFrom s l i) (evAt l i) := by
  rw [evAt_lt h, stFrom, List.take_add_one, List.getElem?_eq_getElem h, Option.toList_some, List.foldl_append]
  rfl
theorem playL_at : ∀ (l : List Ev) (s : St) (c : Nat), (playL s c l).2.2 = 0 → (∀ i, i < l.length → err (stFrom s l i) (evAt l i) = 0) ∧ (playL s c l).1 = stFrom s l l.length := by
  intro l
  induction l with
  | nil => intro s c _; exact ⟨fun i hi => by simp at hi, rfl⟩
  | cons e l ih =>
    intro s c h
    simp only [playL] at h ⊢
    by_cases he : err s e = 0
    · rw [if_pos he] at h ⊢
      obtain ⟨h1, h2⟩ := ih _ _ h
      refine ⟨fun i hi => ?_, by rw [h2]; simp [stFrom]⟩
      cases i with
      | zero => exact he
      | succ i =>
        have := h1 i (by simpa using hi)
        simpa [stFrom, evAt] using this
    · rw [if_neg he] at h
      exact absurd h he
theorem ok_at {l : List Ev} (h : (played l).2.2 = 0) : (∀ i, i < l.length → err (stAt l i) (evAt l i) = 0) ∧ (played l).1 = stAt l l.length := by
  have hl := (played_evs h).1
  rw [played_small hl] at h ⊢
  exact playL_at l _ _ h
theorem nxt_over {s : St} {e : Ev} {j : Nat} (h : s.over j = true) : (nxt s e).over j = true := by
  unfold nxt
  repeat' split
  all_goals first | exact h | (simp only [updB]; split <;> first | rfl | exact h)
theorem begun_mono {l : List Ev} {i j x : Nat} (hij : i ≤ j) (hj : j ≤ l.length) (h : (stAt l i).begun x = true) : (stAt l j).begun x = true := by
  induction j with
  | zero => obtain rfl : i = 0 := by omega
            exact h
  | succ j ih =>
    by_cases e : i = j + 1
    · subst e; exact h
    · rw [stAt, stFrom_succ _ _ _ (by omega)]
      exact nxt_begun (ih (by omega) (by omega))
theorem over_mono {l : List Ev} {i j x : Nat} (hij : i ≤ j) (hj : j ≤ l.length) (h : (stAt l i).over x = true) : (stAt l j).over x = true := by
  induction j with
  | zero => obtain rfl : i = 0 := by omega
            exact h
  | succ j ih =>
    by_cases e : i = j + 1
    · subst e; exact h
    · rw [stAt, stFrom_succ _ _ _ (by omega)]
      exact nxt_over (ih (by omega) (by omega))
theorem ev_at {l : List Ev} (h : (played l).2.2 = 0) {i : Nat} (hi : i < l.length) : 0 ≤ (evAt l i).t ∧ (evAt l i).t < 6 ∧ 0 ≤ (evAt l i).o ∧ (evAt l i).o < manyOf (evAt l i).k :=
  isEv_iff.1 (err0 ((ok_at h).1 i hi)).1
/-- A Fork is ahead of the events of its thread; the events of a thread are ahead of a Join. -/
theorem fork_lt {l : List Ev} (h : (played l).2.2 = 0) {i j : Nat} (hi : i < l.length) (hj : j < l.length) (hk : (evAt l i).k = 5) (ht : (evAt l j).t = (evAt l i).o) : i < j := by
  have e1 := (err0 ((ok_at h).1 i hi)).2.2.2.2.2.1 hk
  have e2 := (err0 ((ok_at h).1 j hj)).2.1
  rw [ht] at e2
  by_cases hij : i < j
  · exact hij
  · rw [begun_mono (show j ≤ i by omega) (by omega) e2] at e1; cases e1
theorem join_lt {l : List Ev} (h : (played l).2.2 = 0) {i j : Nat} (hi : i < l.length) (hj : j < l.length) (hk : (evAt l i).k = 6) (ht : (evAt l j).t = (evAt l i).o) : j < i := by
  have e1 := ((err0 ((ok_at h).1 i hi)).2.2.2.2.2.2 hk).2
  have e2 := (err0 ((ok_at h).1 j hj)).2.2.1
  rw [ht] at e2
  by_cases hij : i < j
  · have e3 : (stAt l (i + 1)).over (evAt l i).o.toNat = true := by
      rw [stAt, stFrom_succ _ _ _ hi]
      simp [nxt, hk, updB]
    rw [over_mono (show i + 1 ≤ j by omega) (by omega) e3] at e2; cases e2
  · by_cases e : i = j
    · subst e; exact absurd ht.symm e1
    · omega
/-- The last event of a lock, from place i on, below place m. -/
theorem lock_step {s : St} {e : Ev} {o : Int} (ho : 0 ≤ o) (he : 0 ≤ e.o) (h : ¬ ((e.k = 3 ∨ e.k = 4) ∧ e.o = o)) : (nxt s e).owner o.toNat = s.owner o.toNat := by
  unfold nxt
  have hne : e.k = 3 ∨ e.k = 4 → ¬ o.toNat = e.o.toNat := fun hk hh => h ⟨hk, by omega⟩
  split
  · rename_i hk; simp only [updI, if_neg (hne (.inl hk))]
  · split
    · rename_i hk; simp only [updI, if_neg (hne (.inr hk))]
    · split
      · rfl
      · split <;> rfl
theorem lock_own {s : St} {e : Ev} (h : e.k = 3 ∨ e.k = 4) : (nxt s e).owner e.o.toNat = if e.k = 3 then e.t + 1 else 0 := by
  unfold nxt
  rcases h with h | h <;> simp [h, updI]
end Go.Proofs.YtmeidjhojanogaaDoor
