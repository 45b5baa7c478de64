/- The detector by full clocks is exact, plain. No program. -/
import Derived.Test.YtdhbgbneadcmiaaFulC
import Derived.Test.YtdhbgbneadcmiaaRacP
import Derived.Test.YtdhbgbneadcmiaaSrt
namespace Go.Proofs.Ytdhbgbneadcmiaa

theorem mem_fFlags {l : List Ev} {f : Ev} : ∀ {m : Nat}, f ∈ fFlags l m ↔ ∃ i, i < m ∧ fKind l i ≠ 0 ∧ f = ⟨i, (evAt l i).o, fKind l i⟩
  | 0 => by simp [fFlags]
  | m + 1 => by
    have ih := mem_fFlags (l := l) (f := f) (m := m)
    simp only [fFlags]
    by_cases h0 : fKind l m = 0
    · rw [if_pos h0, ih]
      constructor
      · rintro ⟨i, h1, h2⟩
        exact ⟨i, by omega, h2⟩
      · rintro ⟨i, h1, h2, h3⟩
        by_cases e : i = m
        · subst e; exact absurd h0 h2
        · exact ⟨i, by omega, h2, h3⟩
    · rw [if_neg h0, List.mem_append, List.mem_singleton, ih]
      constructor
      · rintro (⟨i, h1, h2⟩ | h1)
        · exact ⟨i, by omega, h2⟩
        · exact ⟨m, by omega, h0, h1⟩
      · rintro ⟨i, h1, h2, h3⟩
        by_cases e : i = m
        · subst e; exact .inr h3
        · exact .inl ⟨i, by omega, h2, h3⟩
theorem fFlags_rises (l : List Ev) : ∀ m, ((fFlags l m).map Ev.k).Pairwise (· < ·)
  | 0 => by simp [fFlags]
  | m + 1 => by
    have ih := fFlags_rises l m
    simp only [fFlags]
    split
    · exact ih
    · rw [List.map_append, List.pairwise_append]
      refine ⟨ih, by simp, fun a ha b hb => ?_⟩
      obtain ⟨f, hf, rfl⟩ := List.mem_map.1 ha
      have := (fFlags_lt l m f hf).2
      simp at hb
      omega
theorem rises_ext : ∀ {a b : List Int}, a.Pairwise (· < ·) → b.Pairwise (· < ·) → (∀ x, x ∈ a ↔ x ∈ b) → a = b
  | [], [], _, _, _ => rfl
  | [], y :: b, _, _, h => by have := (h y).2 (List.mem_cons_self ..); cases this
  | x :: a, [], _, _, h => by have := (h x).1 (List.mem_cons_self ..); cases this
  | x :: a, y :: b, ha, hb, h => by
    rw [List.pairwise_cons] at ha hb
    have hxy : x = y := by
      rcases List.mem_cons.1 ((h x).1 (List.mem_cons_self ..)) with e | e
      · exact e
      · rcases List.mem_cons.1 ((h y).2 (List.mem_cons_self ..)) with e2 | e2
        · exact e2.symm
        · have := hb.1 x e
          have := ha.1 y e2
          omega
    subst hxy
    refine congrArg _ (rises_ext ha.2 hb.2 fun z => ?_)
    constructor
    · intro hz
      rcases List.mem_cons.1 ((h z).1 (List.mem_cons_of_mem _ hz)) with e | e
      · have := ha.1 z hz; omega
      · exact e
    · intro hz
      rcases List.mem_cons.1 ((h z).2 (List.mem_cons_of_mem _ hz)) with e | e
      · have := hb.1 z hz; omega
      · exact e
section
variable {l : List Ev} (h : (played l).2.2 = 0)
include h
theorem wrAt_epo (x t : Nat) : ∀ m, m ≤ l.length → (wrAt l m x t = 0 ∨ ∃ i, i < m ∧ (evAt l i).k = 2 ∧ (evAt l i).o = x ∧ (evAt l i).t = t ∧ wrAt l m x t = epo l i) ∧ ∀ i, i < m → (evAt l i).k = 2 → (evAt l i).o = x → (evAt l i).t = t → epo l i ≤ wrAt l m x t := by
  intro m
  induction m with
  | zero => intro _; exact ⟨.inl rfl, fun i hi => by omega⟩
  | succ m ih =>
    intro hm
    obtain ⟨h1, h2⟩ := ih (by omega)
    simp only [wrAt]
    split
    · rename_i c
      have ev : vw l m t = epo l m := by unfold epo; rw [show (evAt l m).t.toNat = t by omega]
      refine ⟨.inr ⟨m, by omega, c.1, c.2.1, c.2.2, ev⟩, fun i hi k1 o1 t1 => ?_⟩
      rw [ev]
      by_cases e : i = m
      · rw [e]; exact Int.le_refl _
      · exact epo_mono h (by omega) (by omega) (.inr k1) (by omega)
    · rename_i c
      refine ⟨?_, fun i hi k1 o1 t1 => ?_⟩
      · rcases h1 with h1 | ⟨i, hi, h3⟩
        · exact .inl h1
        · exact .inr ⟨i, by omega, h3⟩
      · by_cases e : i = m
        · subst e; exact absurd ⟨k1, o1, t1⟩ c
        · exact h2 i (by omega) k1 o1 t1
theorem rdAt_epo (x t : Nat) : ∀ m, m ≤ l.length → (rdAt l m x t = 0 ∨ ∃ i, i < m ∧ (evAt l i).k = 1 ∧ (evAt l i).o = x ∧ (evAt l i).t = t ∧ rdAt l m x t = epo l i) ∧ ∀ i, i < m → (evAt l i).k = 1 → (evAt l i).o = x → (evAt l i).t = t → epo l i ≤ rdAt l m x t := by
  intro m
  induction m with
  | zero => intro _; exact ⟨.inl rfl, fun i hi => by omega⟩
  | succ m ih =>
    intro hm
    obtain ⟨h1, h2⟩ := ih (by omega)
    simp only [rdAt]
    split
    · rename_i c
      have ev : vw l m t = epo l m := by unfold epo; rw [show (evAt l m).t.toNat = t by omega]
      refine ⟨.inr ⟨m, by omega, c.1, c.2.1, c.2.2, ev⟩, fun i hi k1 o1 t1 => ?_⟩
      rw [ev]
      by_cases e : i = m
      · rw [e]; exact Int.le_refl _
      · exact epo_mono h (by omega) (by omega) (.inl k1) (by omega)
    · rename_i c
      refine ⟨?_, fun i hi k1 o1 t1 => ?_⟩
      · rcases h1 with h1 | ⟨i, hi, h3⟩
        · exact .inl h1
        · exact .inr ⟨i, by omega, h3⟩
      · by_cases e : i = m
        · subst e; exact absurd ⟨k1, o1, t1⟩ c
        · exact h2 i (by omega) k1 o1 t1
theorem t6 {i : Nat} (hi : i < l.length) : (evAt l i).t.toNat < 6 := by
  have h1 := ev_at h hi
  omega
theorem w_known {j : Nat} (hj : j < l.length) (hk : (evAt l j).k = 1 ∨ (evAt l j).k = 2) : cle (wrAt l j (evAt l j).o.toNat) (vw l j) = true ↔ ∀ i, i < j → (evAt l i).k = 2 → (evAt l i).o = (evAt l j).o → R l j i = true := by
  have oj := on h hj
  rw [cle_iff]
  constructor
  · intro h1 i hi k2 ho
    have h2 := (wrAt_epo h (evAt l j).o.toNat (evAt l i).t.toNat j (by omega)).2 i hi k2 (by omega) (tn h (show i < l.length by omega)).symm
    exact (epoch h hi hj (.inr k2) hk).2 (Int.le_trans h2 (h1 _ (t6 h (by omega))))
  · intro h1 τ hτ
    rcases (wrAt_epo h (evAt l j).o.toNat τ j (by omega)).1 with e | ⟨i, hi, k2, ho, ht, e⟩
    · rw [e]; exact vw_nn h (by omega) τ
    · rw [e]
      have := (epoch h hi hj (.inr k2) hk).1 (h1 i hi k2 (by omega))
      rwa [show (evAt l i).t.toNat = τ by omega] at this
theorem r_known {j : Nat} (hj : j < l.length) (hk : (evAt l j).k = 1 ∨ (evAt l j).k = 2) : cle (rdAt l j (evAt l j).o.toNat) (vw l j) = true ↔ ∀ i, i < j → (evAt l i).k = 1 → (evAt l i).o = (evAt l j).o → R l j i = true := by
  have oj := on h hj
  rw [cle_iff]
  constructor
  · intro h1 i hi k2 ho
    have h2 := (rdAt_epo h (evAt l j).o.toNat (evAt l i).t.toNat j (by omega)).2 i hi k2 (by omega) (tn h (show i < l.length by omega)).symm
    exact (epoch h hi hj (.inl k2) hk).2 (Int.le_trans h2 (h1 _ (t6 h (by omega))))
  · intro h1 τ hτ
    rcases (rdAt_epo h (evAt l j).o.toNat τ j (by omega)).1 with e | ⟨i, hi, k2, ho, ht, e⟩
    · rw [e]; exact vw_nn h (by omega) τ
    · rw [e]
      have := (epoch h hi hj (.inl k2) hk).1 (h1 i hi k2 (by omega))
      rwa [show (evAt l i).t.toNat = τ by omega] at this
/-- Flagged exactly if it is the second access of a race. -/
theorem full_iff {j : Nat} (hj : j < l.length) : fKind l j ≠ 0 ↔ ∃ i, i < j ∧ raceB l i j = true := by
  unfold fKind
  by_cases k1 : (evAt l j).k = 1
  · rw [if_pos k1]
    have hw := w_known h hj (.inl k1)
    by_cases c : cle (wrAt l j (evAt l j).o.toNat) (vw l j) = true
    · rw [if_pos c]
      refine ⟨fun e => absurd rfl e, fun ⟨i, hi, hr⟩ => ?_⟩
      obtain ⟨r1, r2, r3, r4, r5⟩ := raceB_iff.1 hr
      have := hw.1 c i hi (by omega) r3
      rw [this] at r4; cases r4
    · rw [if_neg c]
      refine ⟨fun _ => ?_, fun _ => by decide⟩
      have c2 := mt hw.2 c
      simp only [Classical.not_forall] at c2
      obtain ⟨i, hi, k2, ho, hR⟩ := c2
      exact ⟨i, hi, raceB_iff.2 ⟨isAcc_iff.2 (.inr k2), isAcc_iff.2 (.inl k1), ho, by simpa using hR, .inl k2⟩⟩
  · rw [if_neg k1]
    by_cases k2 : (evAt l j).k = 2
    · rw [if_pos k2]
      have hw := w_known h hj (.inr k2)
      have hr := r_known h hj (.inr k2)
      by_cases c : cle (wrAt l j (evAt l j).o.toNat) (vw l j) = true
      · rw [if_pos c]
        by_cases d : cle (rdAt l j (evAt l j).o.toNat) (vw l j) = true
        · rw [if_pos d]
          refine ⟨fun e => absurd rfl e, fun ⟨i, hi, hr2⟩ => ?_⟩
          obtain ⟨r1, r2, r3, r4, r5⟩ := raceB_iff.1 hr2
          have : R l j i = true := by
            rcases isAcc_iff.1 r1 with e | e
            · exact hr.1 d i hi e r3
            · exact hw.1 c i hi e r3
          rw [this] at r4; cases r4
        · rw [if_neg d]
          refine ⟨fun _ => ?_, fun _ => by decide⟩
          have c2 := mt hr.2 d
          simp only [Classical.not_forall] at c2
          obtain ⟨i, hi, e, ho, hR⟩ := c2
          exact ⟨i, hi, raceB_iff.2 ⟨isAcc_iff.2 (.inl e), isAcc_iff.2 (.inr k2), ho, by simpa using hR, .inr k2⟩⟩
      · rw [if_neg c]
        refine ⟨fun _ => ?_, fun _ => by decide⟩
        have c2 := mt hw.2 c
        simp only [Classical.not_forall] at c2
        obtain ⟨i, hi, e, ho, hR⟩ := c2
        exact ⟨i, hi, raceB_iff.2 ⟨isAcc_iff.2 (.inr e), isAcc_iff.2 (.inr k2), ho, by simpa using hR, .inr k2⟩⟩
    · rw [if_neg k2]
      refine ⟨fun e => absurd rfl e, fun ⟨i, hi, hr⟩ => ?_⟩
      obtain ⟨r1, r2, r3, r4, r5⟩ := raceB_iff.1 hr
      rcases isAcc_iff.1 r2 with e | e
      · exact absurd e k1
      · exact absurd e k2
/-- The seconds of all races are the flags' places. -/
theorem sec_full : secL ((raceL l).map Rc.b) = (fFlags l l.length).map Ev.k := by
  refine rises_ext (secL_rises _) (fFlags_rises _ _) fun x => ?_
  rw [mem_secL, List.mem_map, List.mem_map]
  constructor
  · rintro ⟨r, hr, rfl⟩
    obtain ⟨i, j, rfl, hij, hj, hB⟩ := mem_raceL.1 hr
    exact ⟨_, mem_fFlags.2 ⟨j, hj, (full_iff h hj).2 ⟨i, hij, hB⟩, rfl⟩, rfl⟩
  · rintro ⟨f, hf, rfl⟩
    obtain ⟨j, hj, hk, rfl⟩ := mem_fFlags.1 hf
    obtain ⟨i, hi, hB⟩ := (full_iff h hj).1 hk
    exact ⟨_, mem_raceL.2 ⟨i, j, rfl, hi, hj, hB⟩, rfl⟩
end
end Go.Proofs.Ytdhbgbneadcmiaa
