/- Joined texts. -/
import Derived.Lib.SlicesCompact
import Derived.Test.YtdhbgbneadcmiaaMC
import Derived.Test.YtdhbgbneadcmiaaMB
import Derived.Test.YtdhbgbneadcmiaaMD

/- What is left of a list of numbers, sorted and each once. No program. -/
namespace Go.Proofs.Ytdhbgbneadcmiaa

/-- Rising, each once. -/
def secL (l : List Int) : List Int := Lib.compact (l.mergeSort fun x y => decide (x ≤ y))
theorem comp_mem (d : Array Int) : ∀ (m : Nat) (x : Int), x ∈ Lib.compactUpTo d m ↔ ∃ j, j < m ∧ d[j]! = x
  | 0, x => by simp [Lib.compactUpTo]
  | m + 1, x => by
    rw [Lib.compactUpTo_succ, List.mem_append, comp_mem d m x]
    by_cases hk : Lib.keeps d m = true
    · rw [if_pos hk, List.mem_singleton]
      constructor
      · rintro (⟨j, h1, h2⟩ | h)
        · exact ⟨j, by omega, h2⟩
        · exact ⟨m, by omega, h.symm⟩
      · rintro ⟨j, h1, h2⟩
        by_cases e : j = m
        · subst e; exact .inr h2.symm
        · exact .inl ⟨j, by omega, h2⟩
    · rw [if_neg hk]
      have hk2 : ¬ m = 0 ∧ d[m]! = d[m - 1]! := by simpa [Lib.keeps] using hk
      constructor
      · rintro (⟨j, h1, h2⟩ | h)
        · exact ⟨j, by omega, h2⟩
        · cases h
      · rintro ⟨j, h1, h2⟩
        left
        by_cases e : j = m
        · subst e; exact ⟨j - 1, by omega, by rw [← hk2.2]; exact h2⟩
        · exact ⟨j, by omega, h2⟩
theorem comp_rises (d : Array Int) : ∀ (m : Nat), (∀ i j, i ≤ j → j < m → d[i]! ≤ d[j]!) → (Lib.compactUpTo d m).Pairwise (· < ·)
  | 0, _ => by simp [Lib.compactUpTo]
  | m + 1, hs => by
    rw [Lib.compactUpTo_succ]
    have ih := comp_rises d m (fun i j h1 h2 => hs i j h1 (by omega))
    by_cases hk : Lib.keeps d m = true
    · rw [if_pos hk, List.pairwise_append]
      refine ⟨ih, by simp, fun a ha b hb => ?_⟩
      rw [List.mem_singleton] at hb
      subst hb
      obtain ⟨j, h1, rfl⟩ := (comp_mem d m a).1 ha
      have hk2 : m = 0 ∨ ¬ d[m]! = d[m - 1]! := by simpa [Lib.keeps] using hk
      have h3 := hs j (m - 1) (by omega) (by omega)
      have h4 := hs (m - 1) m (by omega) (by omega)
      rcases hk2 with e | e
      · omega
      · omega
    · rw [if_neg hk, List.append_nil]
      exact ih
theorem comp_len (d : Array Int) (m : Nat) : (Lib.compactUpTo d m).length ≤ m := by
  unfold Lib.compactUpTo
  rw [List.length_map]
  have := List.length_filter_le (Lib.keeps d) (List.range m)
  simpa using this
theorem mem_secL {l : List Int} {x : Int} : x ∈ secL l ↔ x ∈ l := by
  unfold secL Lib.compact
  rw [comp_mem]
  have hm : x ∈ l ↔ x ∈ l.mergeSort fun x y => decide (x ≤ y) := (List.mem_mergeSort (le := fun x y : Int => decide (x ≤ y))).symm
  rw [hm]
  generalize (l.mergeSort fun x y => decide (x ≤ y)) = s
  rw [List.mem_iff_getElem]
  constructor
  · rintro ⟨j, h1, h2⟩
    exact ⟨j, h1, by rw [← h2]; simp [h1]⟩
  · rintro ⟨j, h1, h2⟩
    exact ⟨j, h1, by rw [← h2]; simp [h1]⟩
theorem secL_rises (l : List Int) : (secL l).Pairwise (· < ·) := by
  unfold secL Lib.compact
  have hs : (l.mergeSort fun x y => decide (x ≤ y)).Pairwise fun x y => decide (x ≤ y) = true :=
    List.pairwise_mergeSort (fun a b c h1 h2 => by simp at h1 h2 ⊢; omega) (fun a b => by simp; omega) l
  generalize (l.mergeSort fun x y => decide (x ≤ y)) = s at *
  refine comp_rises _ _ fun i j h1 h2 => ?_
  have hi : i < s.length := by omega
  by_cases e : i = j
  · subst e; exact Int.le_refl _
  · have := List.pairwise_iff_getElem.1 hs i j hi h2 (by omega)
    simpa [hi, h2] using this
theorem secL_len (l : List Int) : (secL l).length ≤ l.length := by
  unfold secL Lib.compact
  have := comp_len (l.mergeSort fun x y => decide (x ≤ y)).toArray (l.mergeSort fun x y => decide (x ≤ y)).length
  simpa using this
theorem secL_nil {l : List Int} : secL l = [] ↔ l = [] := by
  rw [List.eq_nil_iff_forall_not_mem, List.eq_nil_iff_forall_not_mem]
  exact forall_congr' fun x => not_congr mem_secL
end Go.Proofs.Ytdhbgbneadcmiaa

/- The detector by full clocks is exact, plain. No program. -/
namespace Go.Proofs.Ytdhbgbneadcmiaa

theorem mem_fFlags {l : List Ev} {f : Ev} : ∀ {m : Nat}, f ∈ fFlags l m ↔ ∃ i, i < m ∧ fKind l i ≠ 0 ∧ f = ⟨i, (evAt l i).o, fKind l i⟩
  | 0 => by simp [fFlags]
  | m + 1 => by
    have ih := mem_fFlags (l := l) (f := f) (m := m)
    simp only [fFlags]
    by_cases h0 : fKind l m = 0
    · rw [if_pos h0, ih]
      constructor
      · rintro ⟨i, h1, h2⟩
        exact ⟨i, by omega, h2⟩
      · rintro ⟨i, h1, h2, h3⟩
        by_cases e : i = m
        · subst e; exact absurd h0 h2
        · exact ⟨i, by omega, h2, h3⟩
    · rw [if_neg h0, List.mem_append, List.mem_singleton, ih]
      constructor
      · rintro (⟨i, h1, h2⟩ | h1)
        · exact ⟨i, by omega, h2⟩
        · exact ⟨m, by omega, h0, h1⟩
      · rintro ⟨i, h1, h2, h3⟩
        by_cases e : i = m
        · subst e; exact .inr h3
        · exact .inl ⟨i, by omega, h2, h3⟩
theorem fFlags_rises (l : List Ev) : ∀ m, ((fFlags l m).map Ev.k).Pairwise (· < ·)
  | 0 => by simp [fFlags]
  | m + 1 => by
    have ih := fFlags_rises l m
    simp only [fFlags]
    split
    · exact ih
    · rw [List.map_append, List.pairwise_append]
      refine ⟨ih, by simp, fun a ha b hb => ?_⟩
      obtain ⟨f, hf, rfl⟩ := List.mem_map.1 ha
      have := (fFlags_lt l m f hf).2
      simp at hb
      omega
theorem rises_ext : ∀ {a b : List Int}, a.Pairwise (· < ·) → b.Pairwise (· < ·) → (∀ x, x ∈ a ↔ x ∈ b) → a = b
  | [], [], _, _, _ => rfl
  | [], y :: b, _, _, h => by have := (h y).2 (List.mem_cons_self ..); cases this
  | x :: a, [], _, _, h => by have := (h x).1 (List.mem_cons_self ..); cases this
  | x :: a, y :: b, ha, hb, h => by
    rw [List.pairwise_cons] at ha hb
    have hxy : x = y := by
      rcases List.mem_cons.1 ((h x).1 (List.mem_cons_self ..)) with e | e
      · exact e
      · rcases List.mem_cons.1 ((h y).2 (List.mem_cons_self ..)) with e2 | e2
        · exact e2.symm
        · have := hb.1 x e
          have := ha.1 y e2
          omega
    subst hxy
    refine congrArg _ (rises_ext ha.2 hb.2 fun z => ?_)
    constructor
    · intro hz
      rcases List.mem_cons.1 ((h z).1 (List.mem_cons_of_mem _ hz)) with e | e
      · have := ha.1 z hz; omega
      · exact e
    · intro hz
      rcases List.mem_cons.1 ((h z).2 (List.mem_cons_of_mem _ hz)) with e | e
      · have := hb.1 z hz; omega
      · exact e
section
variable {l : List Ev} (h : (played l).2.2 = 0)
include h
theorem wrAt_epo (x t : Nat) : ∀ m, m ≤ l.length → (wrAt l m x t = 0 ∨ ∃ i, i < m ∧ (evAt l i).k = 2 ∧ (evAt l i).o = x ∧ (evAt l i).t = t ∧ wrAt l m x t = epo l i) ∧ ∀ i, i < m → (evAt l i).k = 2 → (evAt l i).o = x → (evAt l i).t = t → epo l i ≤ wrAt l m x t := by
  intro m
  induction m with
  | zero => intro _; exact ⟨.inl rfl, fun i hi => by omega⟩
  | succ m ih =>
    intro hm
    obtain ⟨h1, h2⟩ := ih (by omega)
    simp only [wrAt]
    split
    · rename_i c
      have ev : vw l m t = epo l m := by unfold epo; rw [show (evAt l m).t.toNat = t by omega]
      refine ⟨.inr ⟨m, by omega, c.1, c.2.1, c.2.2, ev⟩, fun i hi k1 o1 t1 => ?_⟩
      rw [ev]
      by_cases e : i = m
      · rw [e]; exact Int.le_refl _
      · exact epo_mono h (by omega) (by omega) (.inr k1) (by omega)
    · rename_i c
      refine ⟨?_, fun i hi k1 o1 t1 => ?_⟩
      · rcases h1 with h1 | ⟨i, hi, h3⟩
        · exact .inl h1
        · exact .inr ⟨i, by omega, h3⟩
      · by_cases e : i = m
        · subst e; exact absurd ⟨k1, o1, t1⟩ c
        · exact h2 i (by omega) k1 o1 t1
theorem rdAt_epo (x t : Nat) : ∀ m, m ≤ l.length → (rdAt l m x t = 0 ∨ ∃ i, i < m ∧ (evAt l i).k = 1 ∧ (evAt l i).o = x ∧ (evAt l i).t = t ∧ rdAt l m x t = epo l i) ∧ ∀ i, i < m → (evAt l i).k = 1 → (evAt l i).o = x → (evAt l i).t = t → epo l i ≤ rdAt l m x t := by
  intro m
  induction m with
  | zero => intro _; exact ⟨.inl rfl, fun i hi => by omega⟩
  | succ m ih =>
    intro hm
    obtain ⟨h1, h2⟩ := ih (by omega)
    simp only [rdAt]
    split
    · rename_i c
      have ev : vw l m t = epo l m := by unfold epo; rw [show (evAt l m).t.toNat = t by omega]
      refine ⟨.inr ⟨m, by omega, c.1, c.2.1, c.2.2, ev⟩, fun i hi k1 o1 t1 => ?_⟩
      rw [ev]
      by_cases e : i = m
      · rw [e]; exact Int.le_refl _
      · exact epo_mono h (by omega) (by omega) (.inl k1) (by omega)
    · rename_i c
      refine ⟨?_, fun i hi k1 o1 t1 => ?_⟩
      · rcases h1 with h1 | ⟨i, hi, h3⟩
        · exact .inl h1
        · exact .inr ⟨i, by omega, h3⟩
      · by_cases e : i = m
        · subst e; exact absurd ⟨k1, o1, t1⟩ c
        · exact h2 i (by omega) k1 o1 t1
theorem t6 {i : Nat} (hi : i < l.length) : (evAt l i).t.toNat < 6 := by
  have h1 := ev_at h hi
  omega
theorem w_known {j : Nat} (hj : j < l.length) (hk : (evAt l j).k = 1 ∨ (evAt l j).k = 2) : cle (wrAt l j (evAt l j).o.toNat) (vw l j) = true ↔ ∀ i, i < j → (evAt l i).k = 2 → (evAt l i).o = (evAt l j).o → R l j i = true := by
  have oj := on h hj
  rw [cle_iff]
  constructor
  · intro h1 i hi k2 ho
    have h2 := (wrAt_epo h (evAt l j).o.toNat (evAt l i).t.toNat j (by omega)).2 i hi k2 (by omega) (tn h (show i < l.length by omega)).symm
    exact (epoch h hi hj (.inr k2) hk).2 (Int.le_trans h2 (h1 _ (t6 h (by omega))))
  · intro h1 τ hτ
    rcases (wrAt_epo h (evAt l j).o.toNat τ j (by omega)).1 with e | ⟨i, hi, k2, ho, ht, e⟩
    · rw [e]; exact vw_nn h (by omega) τ
    · rw [e]
      have := (epoch h hi hj (.inr k2) hk).1 (h1 i hi k2 (by omega))
      rwa [show (evAt l i).t.toNat = τ by omega] at this
theorem r_known {j : Nat} (hj : j < l.length) (hk : (evAt l j).k = 1 ∨ (evAt l j).k = 2) : cle (rdAt l j (evAt l j).o.toNat) (vw l j) = true ↔ ∀ i, i < j → (evAt l i).k = 1 → (evAt l i).o = (evAt l j).o → R l j i = true := by
  have oj := on h hj
  rw [cle_iff]
  constructor
  · intro h1 i hi k2 ho
    have h2 := (rdAt_epo h (evAt l j).o.toNat (evAt l i).t.toNat j (by omega)).2 i hi k2 (by omega) (tn h (show i < l.length by omega)).symm
    exact (epoch h hi hj (.inl k2) hk).2 (Int.le_trans h2 (h1 _ (t6 h (by omega))))
  · intro h1 τ hτ
    rcases (rdAt_epo h (evAt l j).o.toNat τ j (by omega)).1 with e | ⟨i, hi, k2, ho, ht, e⟩
    · rw [e]; exact vw_nn h (by omega) τ
    · rw [e]
      have := (epoch h hi hj (.inl k2) hk).1 (h1 i hi k2 (by omega))
      rwa [show (evAt l i).t.toNat = τ by omega] at this
/-- Flagged exactly if it is the second access of a race. -/
theorem full_iff {j : Nat} (hj : j < l.length) : fKind l j ≠ 0 ↔ ∃ i, i < j ∧ raceB l i j = true := by
  unfold fKind
  by_cases k1 : (evAt l j).k = 1
  · rw [if_pos k1]
    have hw := w_known h hj (.inl k1)
    by_cases c : cle (wrAt l j (evAt l j).o.toNat) (vw l j) = true
    · rw [if_pos c]
      refine ⟨fun e => absurd rfl e, fun ⟨i, hi, hr⟩ => ?_⟩
      obtain ⟨r1, r2, r3, r4, r5⟩ := raceB_iff.1 hr
      have := hw.1 c i hi (by omega) r3
      rw [this] at r4; cases r4
    · rw [if_neg c]
      refine ⟨fun _ => ?_, fun _ => by decide⟩
      have c2 := mt hw.2 c
      simp only [Classical.not_forall] at c2
      obtain ⟨i, hi, k2, ho, hR⟩ := c2
      exact ⟨i, hi, raceB_iff.2 ⟨isAcc_iff.2 (.inr k2), isAcc_iff.2 (.inl k1), ho, by simpa using hR, .inl k2⟩⟩
  · rw [if_neg k1]
    by_cases k2 : (evAt l j).k = 2
    · rw [if_pos k2]
      have hw := w_known h hj (.inr k2)
      have hr := r_known h hj (.inr k2)
      by_cases c : cle (wrAt l j (evAt l j).o.toNat) (vw l j) = true
      · rw [if_pos c]
        by_cases d : cle (rdAt l j (evAt l j).o.toNat) (vw l j) = true
        · rw [if_pos d]
          refine ⟨fun e => absurd rfl e, fun ⟨i, hi, hr2⟩ => ?_⟩
          obtain ⟨r1, r2, r3, r4, r5⟩ := raceB_iff.1 hr2
          have : R l j i = true := by
            rcases isAcc_iff.1 r1 with e | e
            · exact hr.1 d i hi e r3
            · exact hw.1 c i hi e r3
          rw [this] at r4; cases r4
        · rw [if_neg d]
          refine ⟨fun _ => ?_, fun _ => by decide⟩
          have c2 := mt hr.2 d
          simp only [Classical.not_forall] at c2
          obtain ⟨i, hi, e, ho, hR⟩ := c2
          exact ⟨i, hi, raceB_iff.2 ⟨isAcc_iff.2 (.inl e), isAcc_iff.2 (.inr k2), ho, by simpa using hR, .inr k2⟩⟩
      · rw [if_neg c]
        refine ⟨fun _ => ?_, fun _ => by decide⟩
        have c2 := mt hw.2 c
        simp only [Classical.not_forall] at c2
        obtain ⟨i, hi, e, ho, hR⟩ := c2
        exact ⟨i, hi, raceB_iff.2 ⟨isAcc_iff.2 (.inr e), isAcc_iff.2 (.inr k2), ho, by simpa using hR, .inr k2⟩⟩
    · rw [if_neg k2]
      refine ⟨fun e => absurd rfl e, fun ⟨i, hi, hr⟩ => ?_⟩
      obtain ⟨r1, r2, r3, r4, r5⟩ := raceB_iff.1 hr
      rcases isAcc_iff.1 r2 with e | e
      · exact absurd e k1
      · exact absurd e k2
/-- The seconds of all races are the flags' places. -/
theorem sec_full : secL ((raceL l).map Rc.b) = (fFlags l l.length).map Ev.k := by
  refine rises_ext (secL_rises _) (fFlags_rises _ _) fun x => ?_
  rw [mem_secL, List.mem_map, List.mem_map]
  constructor
  · rintro ⟨r, hr, rfl⟩
    obtain ⟨i, j, rfl, hij, hj, hB⟩ := mem_raceL.1 hr
    exact ⟨_, mem_fFlags.2 ⟨j, hj, (full_iff h hj).2 ⟨i, hij, hB⟩, rfl⟩, rfl⟩
  · rintro ⟨f, hf, rfl⟩
    obtain ⟨j, hj, hk, rfl⟩ := mem_fFlags.1 hf
    obtain ⟨i, hi, hB⟩ := (full_iff h hj).1 hk
    exact ⟨_, mem_raceL.2 ⟨i, j, rfl, hi, hj, hB⟩, rfl⟩
end
end Go.Proofs.Ytdhbgbneadcmiaa

/- The first flag of a variable is the same by both detectors, and is the first second of its races, plain. No program. -/
namespace Go.Proofs.Ytdhbgbneadcmiaa

theorem read_w (s : Fc) (t : Nat) (c : Nat → Int) : (s.read t c).1.wt = s.wt ∧ (s.read t c).1.wn = s.wn := by
  unfold Fc.read
  split
  · exact ⟨rfl, rfl⟩
  · simp only
    split
    · exact ⟨rfl, rfl⟩
    · split <;> exact ⟨rfl, rfl⟩
theorem write_w (s : Fc) (t : Nat) (c : Nat → Int) : (s.write t c).1.wt = t ∧ (s.write t c).1.wn = c t := by
  unfold Fc.write
  split
  · rename_i e; exact e
  · simp only
    split <;> exact ⟨rfl, rfl⟩
/-- The last write is the one that is kept. -/
theorem wn_last (l : List Ev) (x : Nat) : ∀ m, ∀ p, p < m → (evAt l p).k = 2 → (evAt l p).o = x → ∃ q, q < m ∧ (evAt l q).k = 2 ∧ (evAt l q).o = x ∧ (cellAt l x m).wt = (evAt l q).t.toNat ∧ (cellAt l x m).wn = epo l q ∧ p ≤ q := by
  intro m
  induction m with
  | zero => intro p hp; omega
  | succ m ih =>
    intro p hp kp op
    simp only [cellAt]
    by_cases ha : isAt (evAt l m) x = true
    · rw [if_pos ha]
      obtain ⟨hk, ho⟩ := isAt_iff.1 ha
      unfold Fc.acc
      by_cases k1 : (evAt l m).k = 1
      · rw [if_pos k1]
        obtain ⟨e1, e2⟩ := read_w (cellAt l x m) (evAt l m).t.toNat (vw l m)
        rw [e1, e2]
        have hpm : p < m := by
          by_cases e : p = m
          · subst e; omega
          · omega
        obtain ⟨q, h1, h2⟩ := ih p hpm kp op
        exact ⟨q, by omega, h2⟩
      · rw [if_neg k1]
        obtain ⟨e1, e2⟩ := write_w (cellAt l x m) (evAt l m).t.toNat (vw l m)
        rw [e1, e2]
        exact ⟨m, by omega, by omega, ho, rfl, rfl, by omega⟩
    · rw [if_neg ha]
      have hpm : p < m := by
        by_cases e : p = m
        · subst e; exact absurd (isAt_iff.2 ⟨.inr kp, op⟩) ha
        · omega
      obtain ⟨q, h1, h2⟩ := ih p hpm kp op
      exact ⟨q, by omega, h2⟩
section
variable {l : List Ev} (h : (played l).2.2 = 0)
include h
/-- Up to the first flag of a variable both detectors say the same. -/
theorem kinds_same {j : Nat} (hj : j < l.length) (hq : ∀ i, i < j → (evAt l i).o = (evAt l j).o → qKind l i = 0) : fKind l j = qKind l j := by
  by_cases h0 : qKind l j = 0
  · rw [h0]
    by_cases hf : fKind l j = 0
    · exact hf
    · obtain ⟨i, hi, hr⟩ := (full_iff h hj).1 hf
      have := fast_clean h hj (fun q hq1 hq2 => by
        by_cases e : q = j
        · rw [e]; exact h0
        · exact hq q (by omega) hq2) i hi
      rw [this] at hr; cases hr
  · obtain ⟨i, hi, hr, hk⟩ := fast_true h hj h0
    obtain ⟨r1, r2, r3, r4, r5⟩ := raceB_iff.1 hr
    have r1 := isAcc_iff.1 r1
    have r2 := isAcc_iff.1 r2
    have hf : fKind l j ≠ 0 := (full_iff h hj).2 ⟨i, hi, hr⟩
    -- a Write that races is known to be so by both
    by_cases k1 : (evAt l j).k = 1
    · have e1 : qKind l j = 2 := by
        rw [← hk]
        unfold kindR
        rw [if_neg (by omega), if_pos (by omega)]
      rw [e1]
      unfold fKind at hf ⊢
      rw [if_pos k1] at hf ⊢
      by_cases c : cle (wrAt l j (evAt l j).o.toNat) (vw l j) = true
      · rw [if_pos c] at hf; exact absurd rfl hf
      · rw [if_neg c]
    · have k2 : (evAt l j).k = 2 := by omega
      unfold fKind at hf ⊢
      rw [if_neg k1, if_pos k2] at hf ⊢
      have hw := w_known h hj (.inr k2)
      by_cases c : cle (wrAt l j (evAt l j).o.toNat) (vw l j) = true
      · -- no Write races: nor does the fast one say so
        rw [if_pos c] at hf ⊢
        by_cases d : cle (rdAt l j (evAt l j).o.toNat) (vw l j) = true
        · rw [if_pos d] at hf; exact absurd rfl hf
        · rw [if_neg d, ← hk]
          have ki : (evAt l i).k = 1 := by
            rcases r1 with e | e
            · exact e
            · have := hw.1 c i hi e r3
              rw [this] at r4; cases r4
          unfold kindR
          rw [if_neg (by omega), if_neg (by omega), if_pos k2]
      · rw [if_neg c]
        -- some Write races; the last one does too
        have c2 := mt hw.2 c
        simp only [Classical.not_forall] at c2
        obtain ⟨p, hp, kp, op, hR⟩ := c2
        have hR : R l j p = false := by simpa using hR
        have hat : isAt (evAt l j) (evAt l j).o.toNat = true := isAt_iff.2 ⟨.inr k2, (on h hj).symm⟩
        have hqe : qKind l j = ((cellAt l (evAt l j).o.toNat j).acc (evAt l j) (vw l j)).2 := by unfold qKind; rw [if_pos hat]
        have hc := cw_at (l := l) (evAt l j).o.toNat j
        have hlast := wn_last l (evAt l j).o.toNat j
        rw [hqe] at h0 ⊢
        generalize cellAt l (evAt l j).o.toNat j = s at *
        have hs : s.seen (vw l j) = false := by
          rw [Bool.eq_false_iff]
          intro hs
          simp only [Fc.seen, decide_eq_true_eq] at hs
          obtain ⟨q, hq1, hq2, hq3, hq4, hq5, hq6⟩ := hlast p hp kp (by have := on h hj; omega)
          rw [hq4, hq5] at hs
          have hRq : R l j q = true := (epoch h hq1 hj (.inr hq2) (.inr k2)).2 hs
          by_cases e : p = q
          · subst e; rw [hRq] at hR; cases hR
          · have hpq : p < q := by omega
            have hno := fast_clean h (show q < l.length by omega) (fun t ht1 ht2 => hq t (by omega) (by have := on h hj; omega)) p hpq
            have hRp : R l q p = true := by
              cases hh : R l q p
              · have : raceB l p q = true := raceB_iff.2 ⟨isAcc_iff.2 (.inr kp), isAcc_iff.2 (.inr hq2), by have := on h hj; omega, hh, .inl kp⟩
                rw [this] at hno; cases hno
              · rfl
            rw [R_trans hRq hRp] at hR; cases hR
        clear hk
        unfold Fc.acc at h0 ⊢
        rw [if_neg k1] at h0 ⊢
        unfold Fc.write at h0 ⊢
        split
        · rename_i e
          rw [if_pos e] at h0
          exact absurd rfl h0
        · simp only [hs, Bool.false_eq_true, if_false]
end
end Go.Proofs.Ytdhbgbneadcmiaa
