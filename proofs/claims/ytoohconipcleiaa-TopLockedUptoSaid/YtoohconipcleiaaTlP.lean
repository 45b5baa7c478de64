/- Where one lock is held at all accesses: no detector tells of anything; a program made so. No program. -/
import Derived.Test.YtoohconipcleiaaNE
import Derived.Test.YtoohconipcleiaaPgK
import Derived.Test.YtoohconipcleiaaPgL
import Derived.Test.YtoohconipcleiaaMN
import Derived.Test.YtoohconipcleiaaMF
import Derived.Test.YtoohconipcleiaaND
namespace Go.Proofs.Ytoohconipcleiaa

theorem slow_lock {l : List Ev} (h : (played l).2.2 = 0) {L : Nat} (hH : HasL l L) (x : Nat) : ∀ m, m ≤ l.length → (cellAt l x m).slow = 0 ∧ (cellAt l x m).many = false ∧
    ((cellAt l x m).rn = 0 ∨ ∃ i, i < m ∧ (evAt l i).k = 1 ∧ (evAt l i).t.toNat = (cellAt l x m).rt ∧ (cellAt l x m).rn = epo l i) := by
  intro m
  induction m with
  | zero => intro _; exact ⟨rfl, rfl, .inl rfl⟩
  | succ m ih =>
    intro hm
    obtain ⟨i1, i2, i3⟩ := ih (by omega)
    have hF := finv h m (by omega)
    have keep : ((cellAt l x m).rn = 0 ∨ ∃ i, i < m + 1 ∧ (evAt l i).k = 1 ∧ (evAt l i).t.toNat = (cellAt l x m).rt ∧ (cellAt l x m).rn = epo l i) := by
      rcases i3 with e | ⟨i, g1, g2⟩
      · exact .inl e
      · exact .inr ⟨i, by omega, g2⟩
    simp only [cellAt]
    split
    · rename_i hi
      obtain ⟨hk, hx⟩ := isAt_iff.1 hi
      rcases hk with hk | hk
      · have hkn : (cellAt l x m).rn ≤ (vw l m) (cellAt l x m).rt := by
          rcases i3 with e | ⟨i, g1, g2, g3, g4⟩
          · rw [e]; exact (hF.nn _ _).1
          · rw [g4, ← g3]
            exact (epoch h g1 (by omega) (.inl g2) (.inl hk)).1 (held_ordered h g1 (by omega) (hH i (by omega) (.inl g2)) (hH m (by omega) (.inl hk)))
        have hac : (cellAt l x m).acc (evAt l m) (vw l m) = (cellAt l x m).read (evAt l m).t.toNat (vw l m) := by simp [Fc.acc, hk]
        rw [hac, Fc.read]
        split
        · exact ⟨i1, i2, keep⟩
        · simp only [i2, hkn, decide_true, if_true, Bool.false_eq_true, if_false]
          exact ⟨i1, trivial, .inr ⟨m, by omega, hk, rfl, rfl⟩⟩
      · have hac : (cellAt l x m).acc (evAt l m) (vw l m) = (cellAt l x m).write (evAt l m).t.toNat (vw l m) := by simp [Fc.acc, hk]
        rw [hac, Fc.write]
        split
        · exact ⟨i1, i2, keep⟩
        · simp only [i2, Bool.false_eq_true, if_false]
          exact ⟨i1, trivial, keep⟩
    · exact ⟨i1, i2, keep⟩
theorem slowUp_lock {l : List Ev} (h : (played l).2.2 = 0) {L : Nat} (hH : HasL l L) : ∀ k, slowUp l k = 0
  | 0 => rfl
  | k + 1 => by simp only [slowUp]; rw [slowUp_lock h hH k, (slow_lock h hH k _ (Nat.le_refl _)).1]; rfl
/-- A lock that a thread has is in a guard's books. -/
theorem bit_own {l : List Ev} (hp : (played l).2.2 = 0) : ∀ i, i ≤ l.length → ∀ t o : Nat, o < 5 → (stAt l i).owner o = (t : Int) + 1 → ((gdL l i).H t).testBit o = true
  | 0, _ => fun t o _ h => by
    have h' : (0 : Int) = t + 1 := h
    omega
  | i + 1, hi => fun t o ho5 h => by
    have hil : i < l.length := by omega
    have ih := bit_own hp i (by omega)
    obtain ⟨t0, _, o0, oM⟩ := ev_at hp hil
    rw [stAt, stFrom_succ _ _ _ hil] at h
    have hu : (gdL l (i + 1)).H = hStep (gdL l i).H (evAt l i) := gStep_H _ _ _
    rw [hu]
    change ∀ t o : Nat, o < 5 → (stFrom St.first l i).owner o = t + 1 → ((gdL l i).H t).testBit o = true at ih
    generalize stFrom St.first l i = s at *
    generalize (gdL l i).H = H at *
    generalize evAt l i = e at *
    unfold hStep
    unfold nxt at h
    by_cases k3 : e.k = 3
    · rw [if_pos k3] at h ⊢
      have h : updI s.owner e.o.toNat (e.t + 1) o = t + 1 := h
      unfold upH
      unfold updI at h
      by_cases ho : o = e.o.toNat
      · rw [if_pos ho] at h
        have ht : t = e.t.toNat := by omega
        rw [if_pos ht, Nat.testBit_or, ho]
        unfold bitN
        rw [Nat.testBit_two_pow_self, Bool.or_true]
      · rw [if_neg ho] at h
        have := ih _ _ ho5 h
        split
        · rename_i ht
          rw [Nat.testBit_or, ← ht, this, Bool.true_or]
        · exact this
    · rw [if_neg k3] at h ⊢
      by_cases k4 : e.k = 4
      · rw [if_pos k4] at h ⊢
        have h : updI s.owner e.o.toNat 0 o = t + 1 := h
        unfold upH
        unfold updI at h
        by_cases ho : o = e.o.toNat
        · rw [if_pos ho] at h; omega
        · rw [if_neg ho] at h
          have := ih _ _ ho5 h
          split
          · rename_i ht
            rw [Nat.testBit_and, ← ht, this, Bool.true_and, Nat.testBit_xor]
            unfold bitN
            rw [Nat.testBit_two_pow]
            have h31 : Nat.testBit 31 o = true := by
              rcases (show o = 0 ∨ o = 1 ∨ o = 2 ∨ o = 3 ∨ o = 4 by omega) with rfl | rfl | rfl | rfl | rfl <;> decide
            rw [h31, decide_eq_false (fun e => ho e.symm)]
            rfl
          · exact this
      · rw [if_neg k4] at h ⊢
        refine ih _ _ ho5 ?_
        revert h
        repeat' split
        all_goals exact id
theorem coL_has {l : List Ev} {x : Int} {o : Nat} (ho : o < 5) : ∀ n, (∀ i, i < n → isAcc (evAt l i) = true → (lkAt l i).testBit o = true) → (coL l x n).testBit o = true
  | 0, _ => by
    show Nat.testBit 31 o = true
    rcases (show o = 0 ∨ o = 1 ∨ o = 2 ∨ o = 3 ∨ o = 4 by omega) with rfl | rfl | rfl | rfl | rfl <;> decide
  | n + 1, h => by
    have ih := coL_has ho n (x := x) (fun i hi => h i (by omega))
    unfold coL
    split
    · rename_i hc
      rw [Bool.and_eq_true] at hc
      rw [Nat.testBit_and, ih, h n (by omega) hc.1]
      rfl
    · exact ih
theorem gWs_lock {l : List Ev} (hp : (played l).2.2 = 0) {L : Nat} (h5 : L < 5) (hH : HasL l L) : (gdL l l.length).W = [] := by
  cases hW : (gdL l l.length).W with
  | nil => rfl
  | cons f r =>
    exfalso
    have hf : f ∈ (gdL l l.length).W := by rw [hW]; simp
    obtain ⟨_, y, hy, _⟩ := gW_again hp l.length (Nat.le_refl _) f hf
    have h0 := safe_warn hp hf (x := y) (by omega)
    have hb := coL_has (l := l) (x := y) h5 l.length fun i hi ha => by
      have hk : (evAt l i).k = 1 ∨ (evAt l i).k = 2 := by unfold isAcc at ha; simpa using ha
      rw [lkAt_acc ha]
      obtain ⟨t0, _⟩ := ev_at hp hi
      exact bit_own hp i (by omega) _ _ h5 (by rw [hH i hi hk]; omega)
    rw [h0, Nat.zero_testBit] at hb
    cases hb
/-- A run of a program made so. -/
structure Calm (l : List Ev) : Prop where
  play : (played l).2.2 = 0
  race : raceL l = []
  warn : gWs l = []
  slow : slowUp l 8 = 0
  flags : qFlags l l.length = []
theorem lk_calm {p : List (List Ev)} {picks : List Int} (he : errR (lkP p) picks.length = 0) : Calm (evR (lkP p) picks) := by
  have hO : OkP (lkP p) := by
    unfold errR at he
    split at he
    · rename_i hc; exact chkP_ok hc
    · rename_i hc; exact absurd he hc
  have hV : evR (lkP p) picks = (runP (lkP p) picks).2 := by unfold evR; rw [if_pos he]
  have hP : (played (runP (lkP p) picks).2).2.2 = 0 := by have := runP_may hO picks; rwa [mayB, beq_iff_eq] at this
  have hH := runP_held hO (lkP_acc p) picks
  rw [hV]
  have hr := held_races hP hH
  exact ⟨hP, hr, by unfold gWs; rw [if_pos hP]; exact gWs_lock hP (by omega) hH, slowUp_lock hP hH 8, (fast_none hP).2 hr⟩
end Go.Proofs.Ytoohconipcleiaa
