/- Joined texts. -/
import Derived.Test.YtmeidjhojanogaaDoorMO

/- The detector by epochs, plain: its cells, its flags. No program. -/
namespace Go.Proofs.YtmeidjhojanogaaDoor

/-- What is kept of a variable: the last write's epoch; the last read's, or (many) a clock of reads; how often an epoch was not enough. -/
structure Fc where
  wt : Nat
  wn : Int
  many : Bool
  rt : Nat
  rn : Int
  rc : Nat → Int
  slow : Int
def Fc.first : Fc := ⟨0, 0, false, 0, 0, fun _ => 0, 0⟩
/-- Is what was read known to a clock? -/
def Fc.known (x : Fc) (c : Nat → Int) : Bool := if x.many then cle x.rc c else decide (x.rn ≤ c x.rt)
def Fc.seen (x : Fc) (c : Nat → Int) : Bool := decide (x.wn ≤ c x.wt)
def setC (f : Nat → Int) (t : Nat) (n : Int) : Nat → Int := fun i => if i = t then n else f i
/-- A read by thread t, that has clock c. -/
def Fc.read (x : Fc) (t : Nat) (c : Nat → Int) : Fc × Int :=
  if x.many = false ∧ x.rt = t ∧ x.rn = c t then (x, 0)
  else
    (if x.many then { x with rc := setC x.rc t (c t) }
      else if decide (x.rn ≤ c x.rt) then { x with rt := t, rn := c t }
      else { x with many := true, rc := setC (setC (fun _ => 0) x.rt x.rn) t (c t), slow := x.slow + 1 }, if x.seen c then 0 else 2)
def Fc.write (x : Fc) (t : Nat) (c : Nat → Int) : Fc × Int :=
  if x.wt = t ∧ x.wn = c t then (x, 0)
  else (if x.many then { x with wt := t, wn := c t, many := false, rt := 0, rn := 0 } else { x with wt := t, wn := c t }, if x.seen c then (if x.known c then 0 else 3) else 1)
def Fc.acc (x : Fc) (e : Ev) (c : Nat → Int) : Fc × Int := if e.k = 1 then x.read e.t.toNat c else x.write e.t.toNat c
/-- Is it an access of variable x? -/
def isAt (e : Ev) (x : Nat) : Bool := (decide (e.k = 1) || decide (e.k = 2)) && decide (e.o = x)
theorem isAt_iff {e : Ev} {x : Nat} : isAt e x = true ↔ (e.k = 1 ∨ e.k = 2) ∧ e.o = x := by simp [isAt]
/-- A variable's cell behind m events. -/
def cellAt (l : List Ev) (x : Nat) : Nat → Fc
  | 0 => Fc.first
  | m + 1 => if isAt (evAt l m) x then ((cellAt l x m).acc (evAt l m) (vw l m)).1 else cellAt l x m
/-- What event m is flagged as. -/
def qKind (l : List Ev) (m : Nat) : Int := if isAt (evAt l m) (evAt l m).o.toNat then ((cellAt l (evAt l m).o.toNat m).acc (evAt l m) (vw l m)).2 else 0
def qFlags (l : List Ev) : Nat → List Ev
  | 0 => []
  | m + 1 => if qKind l m = 0 then qFlags l m else qFlags l m ++ [⟨m, (evAt l m).o, qKind l m⟩]
theorem mem_qFlags {l : List Ev} {f : Ev} : ∀ {m : Nat}, f ∈ qFlags l m ↔ ∃ i, i < m ∧ qKind l i ≠ 0 ∧ f = ⟨i, (evAt l i).o, qKind l i⟩ := by
  intro m
  induction m with
  | zero => simp [qFlags]
  | succ m ih =>
    simp only [qFlags]
    split
    · rename_i h0
      rw [ih]
      constructor
      · rintro ⟨i, h1, h2, h3⟩; exact ⟨i, by omega, h2, h3⟩
      · rintro ⟨i, h1, h2, h3⟩
        by_cases e : i = m
        · subst e; exact absurd h0 h2
        · exact ⟨i, by omega, h2, h3⟩
    · rename_i h0
      rw [List.mem_append, ih, List.mem_singleton]
      constructor
      · rintro (⟨i, h1, h2, h3⟩ | h3)
        · exact ⟨i, by omega, h2, h3⟩
        · exact ⟨m, by omega, h0, h3⟩
      · rintro ⟨i, h1, h2, h3⟩
        by_cases e : i = m
        · subst e; exact .inr h3
        · exact .inl ⟨i, by omega, h2, h3⟩
section
variable {l : List Ev} (h : (played l).2.2 = 0)
/-- Each number of a cell is the epoch of an access, or 0. -/
structure CW (l : List Ev) (x m : Nat) (s : Fc) : Prop where
  w : (s.wn = 0 ∧ s.wt = 0) ∨ ∃ i, i < m ∧ (evAt l i).k = 2 ∧ (evAt l i).o = x ∧ s.wt = (evAt l i).t.toNat ∧ s.wn = epo l i
  r : s.many = false → (s.rn = 0 ∧ s.rt = 0) ∨ ∃ i, i < m ∧ (evAt l i).k = 1 ∧ (evAt l i).o = x ∧ s.rt = (evAt l i).t.toNat ∧ s.rn = epo l i
  c : s.many = true → ∀ τ, s.rc τ = 0 ∨ ∃ i, i < m ∧ (evAt l i).k = 1 ∧ (evAt l i).o = x ∧ τ = (evAt l i).t.toNat ∧ s.rc τ = epo l i
theorem CW.up {x m : Nat} {s : Fc} (hc : CW l x m s) : CW l x (m + 1) s := by
  refine ⟨?_, fun hm => ?_, fun hm τ => ?_⟩
  · rcases hc.w with h1 | ⟨i, h1, h2⟩
    · exact .inl h1
    · exact .inr ⟨i, by omega, h2⟩
  · rcases hc.r hm with h1 | ⟨i, h1, h2⟩
    · exact .inl h1
    · exact .inr ⟨i, by omega, h2⟩
  · rcases hc.c hm τ with h1 | ⟨i, h1, h2⟩
    · exact .inl h1
    · exact .inr ⟨i, by omega, h2⟩
theorem cw_at (x : Nat) : ∀ m, CW l x m (cellAt l x m) := by
  intro m
  induction m with
  | zero => exact ⟨.inl ⟨rfl, rfl⟩, fun _ => .inl ⟨rfl, rfl⟩, fun h => by cases h⟩
  | succ m ih =>
    simp only [cellAt]
    by_cases ha : isAt (evAt l m) x = true
    · rw [if_pos ha]
      obtain ⟨hk, ho⟩ := isAt_iff.1 ha
      have hu := ih.up
      generalize cellAt l x m = s at *
      unfold Fc.acc
      have ev : vw l m (evAt l m).t.toNat = epo l m := rfl
      by_cases k1 : (evAt l m).k = 1
      · rw [if_pos k1]
        unfold Fc.read
        split
        · exact hu
        · simp only
          split
          · rename_i hmany
            refine ⟨hu.w, fun hh => (by simp [hmany] at hh), fun _ τ => ?_⟩
            by_cases e : τ = (evAt l m).t.toNat
            · exact .inr ⟨m, by omega, k1, ho, e, by simp [setC, e, ev]⟩
            · simp only [setC, if_neg e]
              exact hu.c hmany τ
          · split
            · exact ⟨hu.w, fun _ => .inr ⟨m, by omega, k1, ho, rfl, ev⟩, fun hh => (by rename_i h1 _; exact absurd hh h1)⟩
            · rename_i hm0 _
              have hm0 : s.many = false := by simpa using hm0
              refine ⟨hu.w, fun hh => (by simp at hh), fun _ τ => ?_⟩
              by_cases e : τ = (evAt l m).t.toNat
              · exact .inr ⟨m, by omega, k1, ho, e, by simp [setC, e, ev]⟩
              · simp only [setC, if_neg e]
                by_cases e2 : τ = s.rt
                · rw [if_pos e2]
                  rcases hu.r hm0 with h1 | ⟨i, h1, h2, h3, h4, h5⟩
                  · exact .inl h1.1
                  · exact .inr ⟨i, h1, h2, h3, by rw [e2, h4], h5⟩
                · rw [if_neg e2]; exact .inl rfl
      · rw [if_neg k1]
        have k2 : (evAt l m).k = 2 := by omega
        unfold Fc.write
        split
        · exact hu
        · simp only
          split
          · exact ⟨.inr ⟨m, by omega, k2, ho, rfl, ev⟩, fun _ => .inl ⟨rfl, rfl⟩, fun hh => (by simp at hh)⟩
          · exact ⟨.inr ⟨m, by omega, k2, ho, rfl, ev⟩, hu.r, hu.c⟩
    · rw [if_neg ha]; exact ih.up
include h
/-- Whatever is flagged is the second of a race, of a kind that there is. -/
theorem fast_true {j : Nat} (hj : j < l.length) (hq : qKind l j ≠ 0) : ∃ i, i < j ∧ raceB l i j = true ∧ kindR (evAt l i) (evAt l j) = qKind l j := by
  have hat : isAt (evAt l j) (evAt l j).o.toNat = true := by
    unfold qKind at hq
    by_cases e : isAt (evAt l j) (evAt l j).o.toNat = true
    · exact e
    · rw [if_neg e] at hq; exact absurd rfl hq
  obtain ⟨hk, ho⟩ := isAt_iff.1 hat
  have hc := cw_at (l := l) (evAt l j).o.toNat j
  have hqe : qKind l j = ((cellAt l (evAt l j).o.toNat j).acc (evAt l j) (vw l j)).2 := by unfold qKind; rw [if_pos hat]
  rw [hqe] at hq ⊢
  generalize cellAt l (evAt l j).o.toNat j = s at *
  have nn := vw_nn h (i := j) (by omega)
  -- an access whose epoch is not known races
  have key : ∀ i, i < j → ((evAt l i).k = 1 ∨ (evAt l i).k = 2) → (evAt l i).o = (evAt l j).o.toNat → ¬ epo l i ≤ vw l j (evAt l i).t.toNat → ((evAt l i).k = 2 ∨ (evAt l j).k = 2) → raceB l i j = true := by
    intro i hij hki hoi hne hw
    rw [raceB_iff]
    refine ⟨isAccR_iff.2 hki, isAccR_iff.2 hk, by omega, ?_, hw⟩
    rw [Bool.eq_false_iff]
    intro hR
    exact hne ((epoch h hij hj hki hk).1 hR)
  have hww : s.seen (vw l j) = false → ∃ i, i < j ∧ (evAt l i).k = 2 ∧ (evAt l i).o = (evAt l j).o.toNat ∧ ¬ epo l i ≤ vw l j (evAt l i).t.toNat := by
    intro hs
    simp only [Fc.seen, decide_eq_false_iff_not] at hs
    rcases hc.w with ⟨h1, h2⟩ | ⟨i, h1, h2, h3, h4, h5⟩
    · rw [h1] at hs; exact absurd (nn _) hs
    · exact ⟨i, h1, h2, h3, by rw [← h4, ← h5]; exact hs⟩
  have hrr : s.known (vw l j) = false → ∃ i, i < j ∧ (evAt l i).k = 1 ∧ (evAt l i).o = (evAt l j).o.toNat ∧ ¬ epo l i ≤ vw l j (evAt l i).t.toNat := by
    intro hs
    unfold Fc.known at hs
    split at hs
    · rename_i hm
      have : ∃ τ, ¬ s.rc τ ≤ vw l j τ := by
        by_cases hh : ∃ τ, ¬ s.rc τ ≤ vw l j τ
        · exact hh
        · exfalso
          have : cle s.rc (vw l j) = true := cle_iff.2 fun τ _ => by
            by_cases h2 : s.rc τ ≤ vw l j τ
            · exact h2
            · exact absurd ⟨τ, h2⟩ hh
          rw [this] at hs; cases hs
      obtain ⟨τ, hτ⟩ := this
      rcases hc.c hm τ with h1 | ⟨i, h1, h2, h3, h4, h5⟩
      · rw [h1] at hτ; exact absurd (nn _) hτ
      · exact ⟨i, h1, h2, h3, by rw [← h4, ← h5]; exact hτ⟩
    · rename_i hm
      simp only [decide_eq_false_iff_not] at hs
      rcases hc.r (by simpa using hm) with ⟨h1, h2⟩ | ⟨i, h1, h2, h3, h4, h5⟩
      · rw [h1] at hs; exact absurd (nn _) hs
      · exact ⟨i, h1, h2, h3, by rw [← h4, ← h5]; exact hs⟩
  unfold Fc.acc at hq ⊢
  by_cases k1 : (evAt l j).k = 1
  · rw [if_pos k1] at hq ⊢
    unfold Fc.read at hq ⊢
    split at hq
    · exact absurd rfl hq
    · rename_i hns
      rw [if_neg hns]
      simp only at hq ⊢
      cases hs : s.seen (vw l j)
      · obtain ⟨i, h1, h2, h3, h4⟩ := hww hs
        exact ⟨i, h1, key i h1 (.inr h2) h3 h4 (.inl h2), by simp [kindR, h2, k1]⟩
      · rw [hs] at hq; simp at hq
  · rw [if_neg k1] at hq ⊢
    have k2 : (evAt l j).k = 2 := by omega
    unfold Fc.write at hq ⊢
    split at hq
    · exact absurd rfl hq
    · rename_i hns
      rw [if_neg hns]
      simp only at hq ⊢
      cases hs : s.seen (vw l j)
      · obtain ⟨i, h1, h2, h3, h4⟩ := hww hs
        exact ⟨i, h1, key i h1 (.inr h2) h3 h4 (.inl h2), by simp [kindR, h2, k2]⟩
      · rw [hs] at hq
        cases hs2 : s.known (vw l j)
        · obtain ⟨i, h1, h2, h3, h4⟩ := hrr hs2
          exact ⟨i, h1, key i h1 (.inl h2) h3 h4 (.inr k2), by simp [kindR, h2, k2]⟩
        · rw [hs2] at hq; simp at hq
end
end Go.Proofs.YtmeidjhojanogaaDoor

/- The detector by epochs: where it flags nothing there is no race. No program. -/
namespace Go.Proofs.YtmeidjhojanogaaDoor

theorem C_step (s : Fk) (e : Ev) (u t : Nat) : s.C u t ≤ (fSync s e).C u t := by
  unfold fSync
  generalize e.t.toNat = a
  generalize e.o.toNat = b
  repeat' split
  all_goals
    try simp only [upF]
    (repeat' (first | split | simp only [cmax] | simp only [tkF])) <;> (try subst_vars) <;> (first | omega | (simp_all; try omega))
theorem C_mono (l : List Ev) (u t : Nat) {i j : Nat} (h : i ≤ j) : (fAt l i).C u t ≤ (fAt l j).C u t := by
  induction j with
  | zero => obtain rfl : i = 0 := by omega
            exact Int.le_refl _
  | succ j ih =>
    by_cases e : i = j + 1
    · subst e; exact Int.le_refl _
    · exact Int.le_trans (ih (by omega)) (C_step _ _ _ _)
def acc (e : Ev) : Prop := e.k = 1 ∨ e.k = 2
section
variable {l : List Ev} (h : (played l).2.2 = 0)
include h
/-- Another thread does not know the epoch that one has later. -/
theorem strict {i j : Nat} (hij : i < j) (hj : j < l.length) (ht : (evAt l i).t ≠ (evAt l j).t) : vw l i (evAt l j).t.toNat < epo l j := by
  have ho := (err0 ((ok_at h).1 j hj)).2.2.1
  have ho2 : (stAt l i).over (evAt l j).t.toNat = false := by
    cases hh : (stAt l i).over (evAt l j).t.toNat
    · rfl
    · rw [over_mono (show i ≤ j by omega) (by omega) hh] at ho; cases ho
  have h1 := tn h hj
  have h2 := tn h (show i < l.length by omega)
  have h3 := (finv h i (by omega)).lt (evAt l i).t.toNat (evAt l j).t.toNat (by omega) ho2
  have h4 := C_mono l (evAt l j).t.toNat (evAt l j).t.toNat (show i ≤ j by omega)
  simp only [vw, epo] at *
  omega
/-- What a cell is good for, as long as nothing was flagged. -/
structure FI (l : List Ev) (x m : Nat) (s : Fc) : Prop where
  cw : ∀ j, m ≤ j → j < l.length → acc (evAt l j) → s.wn ≤ vw l j s.wt → ∀ i, i < m → (evAt l i).k = 2 → (evAt l i).o = x → R l j i = true
  cr : ∀ j, m ≤ j → j < l.length → acc (evAt l j) → s.wn ≤ vw l j s.wt → s.known (vw l j) = true → ∀ i, i < m → (evAt l i).k = 1 → (evAt l i).o = x → R l j i = true
  sr : s.many = false → 0 < s.rn → ∀ j, m ≤ j → j < l.length → acc (evAt l j) → (evAt l j).t.toNat = s.rt → epo l j = s.rn → ∀ i, i < m → (evAt l i).k = 2 → (evAt l i).o = x → R l j i = true
  sw : 0 < s.wn → ∀ j, m ≤ j → j < l.length → acc (evAt l j) → (evAt l j).t.toNat = s.wt → epo l j = s.wn → ∀ i, i < m → acc (evAt l i) → (evAt l i).o = x → R l j i = true
theorem same_R {i j : Nat} (hij : i < j) (hj : j < l.length) (ht : (evAt l j).t.toNat = (evAt l i).t.toNat) : R l j i = true := by
  have h1 := tn h hj
  have h2 := tn h (show i < l.length by omega)
  exact R_dir hij (dirE_iff.2 (.inl (by omega)))
theorem fi_read {x m : Nat} {s : Fc} (hm : m < l.length) (hc : CW l x m s) (hI : FI l x m s) (k1 : (evAt l m).k = 1) (ho : (evAt l m).o = x) (hq : (s.read (evAt l m).t.toNat (vw l m)).2 = 0) :
    FI l x (m + 1) (s.read (evAt l m).t.toNat (vw l m)).1 ∧ ∀ i, i < m → (evAt l i).k = 2 → (evAt l i).o = x → R l m i = true := by
  have ha : acc (evAt l m) := .inl k1
  have ev : vw l m (evAt l m).t.toNat = epo l m := rfl
  have hp := epo_pos h (i := m) (by omega)
  have t6 : (evAt l m).t.toNat < 6 := by have := ev_at h hm; omega
  have kn : ∀ j, m + 1 ≤ j → j < l.length → acc (evAt l j) → epo l m ≤ vw l j (evAt l m).t.toNat → R l j m = true := fun j h1 h2 h3 h4 => (epoch h (by omega) h2 ha h3).2 h4
  unfold Fc.read at hq ⊢
  by_cases hs : s.many = false ∧ s.rt = (evAt l m).t.toNat ∧ s.rn = vw l m (evAt l m).t.toNat
  · rw [if_pos hs] at hq ⊢
    obtain ⟨s1, s2, s3⟩ := hs
    rw [ev] at s3
    have hmr : ∀ i, i < m → (evAt l i).k = 2 → (evAt l i).o = x → R l m i = true := hI.sr s1 (by omega) m (Nat.le_refl _) hm ha s2.symm (by omega)
    refine ⟨⟨?_, ?_, ?_, ?_⟩, hmr⟩
    · intro j h1 h2 h3 h4 i h5 h6 h7
      have : i ≠ m := by rintro rfl; omega
      exact hI.cw j (by omega) h2 h3 h4 i (by omega) h6 h7
    · intro j h1 h2 h3 h4 h4' i h5 h6 h7
      by_cases e : i = m
      · subst e
        refine kn j h1 h2 h3 ?_
        simp only [Fc.known, s1] at h4'
        rw [← s3, ← s2]
        simpa using h4'
      · exact hI.cr j (by omega) h2 h3 h4 h4' i (by omega) h6 h7
    · intro _ h0 j h1 h2 h3 h4 h4' i h5 h6 h7
      have : i ≠ m := by rintro rfl; omega
      exact hI.sr s1 h0 j (by omega) h2 h3 h4 h4' i (by omega) h6 h7
    · intro h0 j h1 h2 h3 h4 h4' i h5 h6 h7
      replace h0 : 0 < s.wn := h0
      replace h4 : (evAt l j).t.toNat = s.wt := h4
      replace h4' : epo l j = s.wn := h4'
      by_cases e : i = m
      · subst e
        by_cases et : (evAt l j).t = (evAt l i).t
        · exact same_R h (by omega) h2 (by rw [et])
        · exfalso
          rcases hc.w with ⟨w1, w2⟩ | ⟨w, w1, w2, w3, w4, w5⟩
          · omega
          · have hR := hmr w w1 w2 w3
            have h8 := (epoch h w1 hm (.inr w2) ha).1 hR
            have h9 := strict h (i := i) (j := j) (by omega) h2 (fun e => et e.symm)
            rw [← w4, ← w5, ← h4] at h8
            omega
      · exact hI.sw h0 j (by omega) h2 h3 h4 h4' i (by omega) h6 h7
  · rw [if_neg hs] at hq ⊢
    simp only at hq ⊢
    have hseen : s.wn ≤ vw l m s.wt := by
      by_cases hh : s.wn ≤ vw l m s.wt
      · exact hh
      · simp [Fc.seen, hh] at hq
    have hmr : ∀ i, i < m → (evAt l i).k = 2 → (evAt l i).o = x → R l m i = true := hI.cw m (Nat.le_refl _) hm ha hseen
    -- what does not hang on the read's part
    have CWk : ∀ j, m + 1 ≤ j → j < l.length → acc (evAt l j) → s.wn ≤ vw l j s.wt → ∀ i, i < m + 1 → (evAt l i).k = 2 → (evAt l i).o = x → R l j i = true := by
      intro j h1 h2 h3 h4 i h5 h6 h7
      have : i ≠ m := by rintro rfl; omega
      exact hI.cw j (by omega) h2 h3 h4 i (by omega) h6 h7
    have SWk : 0 < s.wn → ∀ j, m + 1 ≤ j → j < l.length → acc (evAt l j) → (evAt l j).t.toNat = s.wt → epo l j = s.wn → ∀ i, i < m + 1 → acc (evAt l i) → (evAt l i).o = x → R l j i = true := by
      intro h0 j h1 h2 h3 h4 h4' i h5 h6 h7
      by_cases e : i = m
      · subst e
        by_cases et : (evAt l j).t = (evAt l i).t
        · exact same_R h (by omega) h2 (by rw [et])
        · exfalso
          have h9 := strict h (i := i) (j := j) (by omega) h2 (fun e => et e.symm)
          rw [h4] at h9
          omega
      · exact hI.sw h0 j (by omega) h2 h3 h4 h4' i (by omega) h6 h7
    refine ⟨?_, hmr⟩
    by_cases hmany : s.many = true
    · rw [if_pos hmany]
      refine ⟨CWk, ?_, fun hh => (by simp [hmany] at hh), SWk⟩
      intro j h1 h2 h3 h4 h4' i h5 h6 h7
      simp only [Fc.known, hmany, if_true] at h4'
      have hle := cle_iff.1 h4'
      have hself := hle _ t6
      simp only [setC, if_true, ev] at hself
      by_cases e : i = m
      · subst e; exact kn j h1 h2 h3 hself
      · refine hI.cr j (by omega) h2 h3 h4 ?_ i (by omega) h6 h7
        simp only [Fc.known, hmany, if_true]
        refine cle_iff.2 fun τ hτ => ?_
        by_cases e2 : τ = (evAt l m).t.toNat
        · subst e2
          rcases hc.c hmany (evAt l m).t.toNat with c1 | ⟨q, q1, q2, q3, q4, q5⟩
          · rw [c1]; exact vw_nn h (by omega) _
          · rw [q5]
            have e3 := tn h hm
            have e4 := tn h (show q < l.length by omega)
            have := epo_mono h q1 hm (.inl q2) (by omega)
            omega
        · have := hle τ hτ
          simp only [setC, if_neg e2] at this
          exact this
    · rw [if_neg hmany]
      have hm0 : s.many = false := by simpa using hmany
      by_cases hk : s.rn ≤ vw l m s.rt
      · rw [if_pos (by simpa using hk)]
        refine ⟨CWk, ?_, ?_, SWk⟩
        · intro j h1 h2 h3 h4 h4' i h5 h6 h7
          simp only [Fc.known, hm0] at h4'
          have hself : epo l m ≤ vw l j (evAt l m).t.toNat := by simpa [ev] using h4'
          have hjm := kn j h1 h2 h3 hself
          by_cases e : i = m
          · subst e; exact hjm
          · exact R_trans hjm (hI.cr m (Nat.le_refl _) hm ha hseen (by simp [Fc.known, hm0, hk]) i (by omega) h6 h7)
        · intro _ _ j h1 h2 h3 h4 h4' i h5 h6 h7
          have : i ≠ m := by rintro rfl; omega
          simp only at h4
          exact R_trans (same_R h (by omega) h2 h4) (hmr i (by omega) h6 h7)
      · rw [if_neg (by simpa using hk)]
        have hrt : s.rt ≠ (evAt l m).t.toNat := by
          intro e
          apply hk
          rcases hc.r hm0 with ⟨c1, _⟩ | ⟨q, q1, q2, q3, q4, q5⟩
          · rw [c1]; exact vw_nn h (by omega) _
          · rw [e, q5, ev]
            have e3 := tn h hm
            have e4 := tn h (show q < l.length by omega)
            exact epo_mono h q1 hm (.inl q2) (by omega)
        have hr6 : s.rt < 6 := by
          rcases hc.r hm0 with ⟨_, c1⟩ | ⟨q, q1, q2, q3, q4, q5⟩
          · omega
          · have := ev_at h (show q < l.length by omega); omega
        refine ⟨CWk, ?_, fun hh => (by simp at hh), SWk⟩
        intro j h1 h2 h3 h4 h4' i h5 h6 h7
        simp only [Fc.known, if_true] at h4'
        have hle := cle_iff.1 h4'
        have hself := hle _ t6
        simp only [setC, if_true, ev] at hself
        have hrr := hle _ hr6
        simp only [setC, if_neg hrt, if_true] at hrr
        by_cases e : i = m
        · subst e; exact kn j h1 h2 h3 hself
        · exact hI.cr j (by omega) h2 h3 h4 (by simp [Fc.known, hm0, hrr]) i (by omega) h6 h7
theorem fi_write {x m : Nat} {s : Fc} (hm : m < l.length) (hc : CW l x m s) (hI : FI l x m s) (k2 : (evAt l m).k = 2) (ho : (evAt l m).o = x) (hq : (s.write (evAt l m).t.toNat (vw l m)).2 = 0) :
    FI l x (m + 1) (s.write (evAt l m).t.toNat (vw l m)).1 ∧ ∀ i, i < m → acc (evAt l i) → (evAt l i).o = x → R l m i = true := by
  have ha : acc (evAt l m) := .inr k2
  have ev : vw l m (evAt l m).t.toNat = epo l m := rfl
  have hp := epo_pos h (i := m) (by omega)
  have kn : ∀ j, m + 1 ≤ j → j < l.length → acc (evAt l j) → epo l m ≤ vw l j (evAt l m).t.toNat → R l j m = true := fun j h1 h2 h3 h4 => (epoch h (by omega) h2 ha h3).2 h4
  unfold Fc.write at hq ⊢
  by_cases hs : s.wt = (evAt l m).t.toNat ∧ s.wn = vw l m (evAt l m).t.toNat
  · rw [if_pos hs] at hq ⊢
    obtain ⟨s2, s3⟩ := hs
    rw [ev] at s3
    have hmr : ∀ i, i < m → acc (evAt l i) → (evAt l i).o = x → R l m i = true := hI.sw (by omega) m (Nat.le_refl _) hm ha s2.symm (by omega)
    refine ⟨⟨?_, ?_, ?_, ?_⟩, hmr⟩
    · intro j h1 h2 h3 h4 i h5 h6 h7
      by_cases e : i = m
      · subst e; exact kn j h1 h2 h3 (by rw [← s2, ← s3]; exact h4)
      · exact hI.cw j (by omega) h2 h3 h4 i (by omega) h6 h7
    · intro j h1 h2 h3 h4 h4' i h5 h6 h7
      have : i ≠ m := by rintro rfl; omega
      exact hI.cr j (by omega) h2 h3 h4 h4' i (by omega) h6 h7
    · intro hmany h0 j h1 h2 h3 h4 h4' i h5 h6 h7
      replace h0 : 0 < s.rn := h0
      replace h4 : (evAt l j).t.toNat = s.rt := h4
      replace h4' : epo l j = s.rn := h4'
      by_cases e : i = m
      · subst e
        by_cases et : (evAt l j).t = (evAt l i).t
        · exact same_R h (by omega) h2 (by rw [et])
        · exfalso
          rcases hc.r hmany with ⟨w1, w2⟩ | ⟨w, w1, w2, w3, w4, w5⟩
          · omega
          · have hR := hmr w w1 (.inl w2) w3
            have h8 := (epoch h w1 hm (.inl w2) ha).1 hR
            have h9 := strict h (i := i) (j := j) (by omega) h2 (fun e => et e.symm)
            rw [← w4, ← w5, ← h4] at h8
            omega
      · exact hI.sr hmany h0 j (by omega) h2 h3 h4 h4' i (by omega) h6 h7
    · intro h0 j h1 h2 h3 h4 h4' i h5 h6 h7
      by_cases e : i = m
      · subst e; exact same_R h (by omega) h2 (by rw [h4, s2])
      · exact hI.sw h0 j (by omega) h2 h3 h4 h4' i (by omega) h6 h7
  · rw [if_neg hs] at hq ⊢
    simp only at hq ⊢
    have hseen : s.wn ≤ vw l m s.wt := by
      by_cases hh : s.wn ≤ vw l m s.wt
      · exact hh
      · simp [Fc.seen, hh] at hq
    have hknown : s.known (vw l m) = true := by
      by_cases hh : s.known (vw l m) = true
      · exact hh
      · simp [Fc.seen, hseen, hh] at hq
    have hmr : ∀ i, i < m → acc (evAt l i) → (evAt l i).o = x → R l m i = true := by
      intro i h1 h2 h3
      rcases h2 with h2 | h2
      · exact hI.cr m (Nat.le_refl _) hm ha hseen hknown i h1 h2 h3
      · exact hI.cw m (Nat.le_refl _) hm ha hseen i h1 h2 h3
    have CWk : ∀ j, m + 1 ≤ j → j < l.length → acc (evAt l j) → epo l m ≤ vw l j (evAt l m).t.toNat → ∀ i, i < m + 1 → acc (evAt l i) → (evAt l i).o = x → R l j i = true := by
      intro j h1 h2 h3 h4 i h5 h6 h7
      have hjm := kn j h1 h2 h3 h4
      by_cases e : i = m
      · subst e; exact hjm
      · exact R_trans hjm (hmr i (by omega) h6 h7)
    have SWk : ∀ j, m + 1 ≤ j → j < l.length → (evAt l j).t.toNat = (evAt l m).t.toNat → ∀ i, i < m + 1 → acc (evAt l i) → (evAt l i).o = x → R l j i = true := by
      intro j h1 h2 h4 i h5 h6 h7
      have hjm := same_R h (show m < j by omega) h2 h4
      by_cases e : i = m
      · subst e; exact hjm
      · exact R_trans hjm (hmr i (by omega) h6 h7)
    refine ⟨?_, hmr⟩
    by_cases hmany : s.many = true
    · rw [if_pos hmany]
      exact ⟨fun j h1 h2 h3 h4 i h5 h6 h7 => CWk j h1 h2 h3 h4 i h5 (.inr h6) h7, fun j h1 h2 h3 h4 _ i h5 h6 h7 => CWk j h1 h2 h3 h4 i h5 (.inl h6) h7, fun _ hh => (by simp at hh), fun _ j h1 h2 _ h4 _ i h5 h6 h7 => SWk j h1 h2 h4 i h5 h6 h7⟩
    · rw [if_neg hmany]
      have hm0 : s.many = false := by simpa using hmany
      refine ⟨fun j h1 h2 h3 h4 i h5 h6 h7 => CWk j h1 h2 h3 h4 i h5 (.inr h6) h7, fun j h1 h2 h3 h4 _ i h5 h6 h7 => CWk j h1 h2 h3 h4 i h5 (.inl h6) h7, ?_, fun _ j h1 h2 _ h4 _ i h5 h6 h7 => SWk j h1 h2 h4 i h5 h6 h7⟩
      intro _ h0 j h1 h2 h3 h4 h4' i h5 h6 h7
      by_cases e : i = m
      · subst e
        by_cases et : (evAt l j).t = (evAt l i).t
        · exact same_R h (by omega) h2 (by rw [et])
        · exfalso
          have h9 := strict h (i := i) (j := j) (by omega) h2 (fun e => et e.symm)
          have hk : s.rn ≤ vw l i s.rt := by simpa [Fc.known, hm0] using hknown
          simp only at h4 h4'
          rw [h4] at h9
          omega
      · exact hI.sr hm0 h0 j (by omega) h2 h3 h4 h4' i (by omega) h6 h7
theorem fi_at (x : Nat) : ∀ m, m ≤ l.length → (∀ i, i < m → (evAt l i).o = x → qKind l i = 0) → FI l x m (cellAt l x m) := by
  intro m
  induction m with
  | zero => intro _ _; exact ⟨fun _ _ _ _ _ i h => by omega, fun _ _ _ _ _ _ i h => by omega, fun _ h => by simp [cellAt, Fc.first] at h, fun h => by simp [cellAt, Fc.first] at h⟩
  | succ m ih =>
    intro hm1 hq
    have hm : m < l.length := by omega
    have hI := ih (by omega) fun i hi => hq i (by omega)
    have hc := cw_at (l := l) x m
    simp only [cellAt]
    by_cases ha : isAt (evAt l m) x = true
    · rw [if_pos ha]
      obtain ⟨hk, ho⟩ := isAt_iff.1 ha
      have h0 := hq m (by omega) ho
      have hon : (evAt l m).o.toNat = x := by omega
      unfold qKind at h0
      rw [hon, if_pos ha] at h0
      unfold Fc.acc at h0 ⊢
      by_cases k1 : (evAt l m).k = 1
      · rw [if_pos k1] at h0 ⊢
        exact (fi_read h hm hc hI k1 ho h0).1
      · rw [if_neg k1] at h0 ⊢
        exact (fi_write h hm hc hI (by omega) ho h0).1
    · rw [if_neg ha]
      have hno : ∀ i, i < m + 1 → acc (evAt l i) → (evAt l i).o = x → i < m := by
        intro i h1 h2 h3
        by_cases e : i = m
        · subst e; exact absurd (isAt_iff.2 ⟨h2, h3⟩) ha
        · omega
      exact ⟨fun j h1 h2 h3 h4 i h5 h6 h7 => hI.cw j (by omega) h2 h3 h4 i (hno i h5 (.inr h6) h7) h6 h7, fun j h1 h2 h3 h4 h4' i h5 h6 h7 => hI.cr j (by omega) h2 h3 h4 h4' i (hno i h5 (.inl h6) h7) h6 h7,
        fun h0 h0' j h1 h2 h3 h4 h4' i h5 h6 h7 => hI.sr h0 h0' j (by omega) h2 h3 h4 h4' i (hno i h5 (.inr h6) h7) h6 h7, fun h0 j h1 h2 h3 h4 h4' i h5 h6 h7 => hI.sw h0 j (by omega) h2 h3 h4 h4' i (hno i h5 h6 h7) h6 h7⟩
/-- Where nothing is flagged of a variable up to an access, that one is the second of no race. -/
theorem fast_clean {j : Nat} (hj : j < l.length) (hq : ∀ i, i ≤ j → (evAt l i).o = (evAt l j).o → qKind l i = 0) (i : Nat) (hij : i < j) : raceB l i j = false := by
  rw [Bool.eq_false_iff]
  intro hr
  obtain ⟨h1, h2, h3, h4, h5⟩ := raceB_iff.1 hr
  have eo := on h hj
  have hat : isAt (evAt l j) (evAt l j).o.toNat = true := isAt_iff.2 ⟨isAccR_iff.1 h2, eo.symm⟩
  have hI := fi_at h (evAt l j).o.toNat j (by omega) fun q hq1 hq2 => hq q (by omega) (by omega)
  have hc := cw_at (l := l) (evAt l j).o.toNat j
  have h0 := hq j (Nat.le_refl _) rfl
  unfold qKind at h0
  rw [if_pos hat] at h0
  unfold Fc.acc at h0
  have hR : R l j i = true := by
    by_cases k1 : (evAt l j).k = 1
    · rw [if_pos k1] at h0
      refine (fi_read h hj hc hI k1 eo.symm h0).2 i hij ?_ (by omega)
      rcases h5 with h5 | h5
      · exact h5
      · omega
    · rw [if_neg k1] at h0
      exact (fi_write h hj hc hI (by have := isAccR_iff.1 h2; omega) eo.symm h0).2 i hij (isAccR_iff.1 h1) (by omega)
  rw [hR] at h4; cases h4
/-- Nothing is flagged exactly if nothing races. -/
theorem fast_none : qFlags l l.length = [] ↔ raceL l = [] := by
  constructor
  · intro hf
    refine raceL_nil fun i j hij hj => fast_clean h hj (fun q hq _ => ?_) i hij
    by_cases e : qKind l q = 0
    · exact e
    · have : (⟨q, (evAt l q).o, qKind l q⟩ : Ev) ∈ qFlags l l.length := mem_qFlags.2 ⟨q, by omega, e, rfl⟩
      rw [hf] at this; cases this
  · intro hr
    rw [List.eq_nil_iff_forall_not_mem]
    intro f hf
    obtain ⟨j, h1, h2, _⟩ := mem_qFlags.1 hf
    obtain ⟨i, h3, h4, _⟩ := fast_true h h1 h2
    have : raceOf l i j ∈ raceL l := mem_raceL.2 ⟨i, j, rfl, h3, h1, h4⟩
    rw [hr] at this; cases this
end
end Go.Proofs.YtmeidjhojanogaaDoor

/- The detector by epochs, plain: what is flagged hangs on what was till then; a state of detection, stepped along a list. No program. -/
namespace Go.Proofs.YtmeidjhojanogaaDoor

theorem qFlags_len (l : List Ev) : ∀ m, (qFlags l m).length ≤ m
  | 0 => Nat.le_refl _
  | m + 1 => by
    simp only [qFlags]
    have := qFlags_len l m
    split
    · omega
    · simp; omega
theorem qFlags_lt (l : List Ev) : ∀ m, ∀ f ∈ qFlags l m, 0 ≤ f.k ∧ f.k < m
  | 0 => by simp [qFlags]
  | m + 1 => by
    intro f hf
    simp only [qFlags] at hf
    split at hf
    · have := qFlags_lt l m f hf; omega
    · rcases List.mem_append.1 hf with h1 | h1
      · have := qFlags_lt l m f h1; omega
      · simp at h1; subst h1; simp only; omega
/-- The flags behind n are at places from n on. -/
theorem qFlags_split (l : List Ev) (n : Nat) : ∀ m, n ≤ m → ∃ r, qFlags l m = qFlags l n ++ r ∧ ∀ f ∈ r, (n : Int) ≤ f.k := by
  intro m
  induction m with
  | zero => intro h; obtain rfl : n = 0 := by omega
            exact ⟨[], by simp, by simp⟩
  | succ m ih =>
    intro h
    by_cases e : n = m + 1
    · subst e; exact ⟨[], by simp, by simp⟩
    · obtain ⟨r, h1, h2⟩ := ih (by omega)
      simp only [qFlags]
      split
      · exact ⟨r, h1, h2⟩
      · refine ⟨r ++ [⟨m, (evAt l m).o, qKind l m⟩], by rw [h1, List.append_assoc], fun f hf => ?_⟩
        rcases List.mem_append.1 hf with h3 | h3
        · exact h2 f h3
        · simp at h3; subst h3; simp only; omega
theorem cellAt_take (l : List Ev) (n x : Nat) : ∀ m, m ≤ n → cellAt (l.take n) x m = cellAt l x m := by
  intro m
  induction m with
  | zero => intro _; rfl
  | succ m ih => intro h; simp only [cellAt]; rw [ih (by omega), evAt_take l n m (by omega), vw_take l n m (by omega)]
theorem qKind_take (l : List Ev) (n m : Nat) (h : m < n) : qKind (l.take n) m = qKind l m := by
  unfold qKind; rw [evAt_take l n m h, vw_take l n m h, cellAt_take l n _ m (by omega)]
theorem qFlags_take (l : List Ev) (n : Nat) : ∀ m, m ≤ n → qFlags (l.take n) m = qFlags l m := by
  intro m
  induction m with
  | zero => intro _; rfl
  | succ m ih => intro h; simp only [qFlags]; rw [ih (by omega), qKind_take l n m (by omega), evAt_take l n m (by omega)]
theorem acc_slow (s : Fc) (e : Ev) (c : Nat → Int) : s.slow ≤ (s.acc e c).1.slow := by
  unfold Fc.acc Fc.read Fc.write
  (repeat' split) <;> simp <;> omega
theorem slow_mono (l : List Ev) (x : Nat) {n m : Nat} (h : n ≤ m) : (cellAt l x n).slow ≤ (cellAt l x m).slow := by
  induction m with
  | zero => obtain rfl : n = 0 := by omega
            exact Int.le_refl _
  | succ m ih =>
    by_cases e : n = m + 1
    · subst e; exact Int.le_refl _
    · refine Int.le_trans (ih (by omega)) ?_
      simp only [cellAt]
      split
      · exact acc_slow _ _ _
      · exact Int.le_refl _
/-- How often an epoch was not enough, of the first k variables. -/
def slowUp (l : List Ev) : Nat → Int
  | 0 => 0
  | k + 1 => slowUp l k + (cellAt l k l.length).slow
theorem slowUp_take (l : List Ev) (n : Nat) (hn : n ≤ l.length) : ∀ k, slowUp (l.take n) k ≤ slowUp l k
  | 0 => Int.le_refl _
  | k + 1 => by
    have h1 := slowUp_take l n hn k
    have h2 := slow_mono l k hn
    simp only [slowUp]
    rw [show (l.take n).length = n by simp; omega, cellAt_take l n k n (Nat.le_refl _)]
    omega
/-- Variables that one thread alone reads. -/
theorem slow_one {l : List Ev} (h : (played l).2.2 = 0) (ho : ∀ e ∈ l, e.k = 1 → e.t = e.o % 6) (x : Nat) : ∀ m, m ≤ l.length → (cellAt l x m).slow = 0 ∧ (cellAt l x m).many = false ∧ ((cellAt l x m).rn = 0 ∨ ((cellAt l x m).rt = x % 6 ∧ (cellAt l x m).rn ≤ (fAt l m).C (x % 6) (x % 6))) := by
  intro m
  induction m with
  | zero => intro _; exact ⟨rfl, rfl, .inl rfl⟩
  | succ m ih =>
    intro hm
    obtain ⟨i1, i2, i3⟩ := ih (by omega)
    have hmm := C_mono l (x % 6) (x % 6) (show m ≤ m + 1 by omega)
    have hF := finv h m (by omega)
    simp only [cellAt]
    split
    · rename_i hi
      obtain ⟨hk, hx⟩ := isAt_iff.1 hi
      rcases hk with hk | hk
      · have he := ho (evAt l m) (by rw [evAt_lt (show m < l.length by omega)]; exact List.getElem_mem (show m < l.length by omega)) hk
        have ht : (evAt l m).t.toNat = x % 6 := by rw [he, hx]; omega
        have hv : vw l m = (fAt l m).C (x % 6) := by rw [vw, ht]
        have hkn : (cellAt l x m).rn ≤ (vw l m) (cellAt l x m).rt := by
          rcases i3 with e | ⟨e1, e2⟩
          · rw [e, hv]; exact (hF.nn _ _).1
          · rw [e1, hv]; exact e2
        have hac : (cellAt l x m).acc (evAt l m) (vw l m) = (cellAt l x m).read (evAt l m).t.toNat (vw l m) := by simp [Fc.acc, hk]
        rw [hac, Fc.read]
        split
        · refine ⟨i1, i2, ?_⟩
          rcases i3 with e | ⟨e1, e2⟩
          · exact .inl e
          · exact .inr ⟨e1, Int.le_trans e2 hmm⟩
        · simp only [i2, hkn, decide_true, if_true, Bool.false_eq_true, if_false]
          refine ⟨i1, trivial, .inr ⟨ht, ?_⟩⟩
          rw [ht, hv]; exact hmm
      · have hac : (cellAt l x m).acc (evAt l m) (vw l m) = (cellAt l x m).write (evAt l m).t.toNat (vw l m) := by simp [Fc.acc, hk]
        rw [hac, Fc.write]
        split
        · refine ⟨i1, i2, ?_⟩
          rcases i3 with e | ⟨e1, e2⟩
          · exact .inl e
          · exact .inr ⟨e1, Int.le_trans e2 hmm⟩
        · simp only [i2, Bool.false_eq_true, if_false]
          refine ⟨i1, trivial, ?_⟩
          rcases i3 with e | ⟨e1, e2⟩
          · exact .inl e
          · exact .inr ⟨e1, Int.le_trans e2 hmm⟩
    · refine ⟨i1, i2, ?_⟩
      rcases i3 with e | ⟨e1, e2⟩
      · exact .inl e
      · exact .inr ⟨e1, Int.le_trans e2 hmm⟩
theorem slowUp_one {l : List Ev} (h : (played l).2.2 = 0) (ho : ∀ e ∈ l, e.k = 1 → e.t = e.o % 6) : ∀ k, slowUp l k = 0
  | 0 => rfl
  | k + 1 => by simp only [slowUp]; rw [slowUp_one h ho k, (slow_one h ho k _ (Nat.le_refl _)).1]; rfl

/-- A state of detection: the clocks, the variables' cells. -/
structure Qs where
  f : Fk
  c : Nat → Fc
def Qs.first : Qs := ⟨Fk.first, fun _ => Fc.first⟩
def Qs.step (s : Qs) (e : Ev) : Qs := ⟨fSync s.f e, fun x => if isAt e x then ((s.c x).acc e (s.f.C e.t.toNat)).1 else s.c x⟩
def Qs.kind (s : Qs) (e : Ev) : Int := if isAt e e.o.toNat then ((s.c e.o.toNat).acc e (s.f.C e.t.toNat)).2 else 0
def Qs.run (s : Qs) (l : List Ev) : Qs := l.foldl Qs.step s
def Qs.flags : Qs → Nat → List Ev → List Ev
  | _, _, [] => []
  | s, i, e :: l => if s.kind e = 0 then (s.step e).flags (i + 1) l else ⟨i, e.o, s.kind e⟩ :: (s.step e).flags (i + 1) l
theorem Qs.flags_append (l m : List Ev) : ∀ (s : Qs) (i : Nat), s.flags i (l ++ m) = s.flags i l ++ (s.run l).flags (i + l.length) m := by
  induction l with
  | nil => intro s i; rfl
  | cons e l ih =>
    intro s i
    simp only [List.cons_append, Qs.flags]
    have h2 : i + 1 + l.length = i + (e :: l).length := by simp; omega
    rw [ih, h2]
    split
    · rfl
    · rfl
/-- The state behind m events. -/
def qsAt (l : List Ev) (m : Nat) : Qs := ⟨fAt l m, fun x => cellAt l x m⟩
theorem qsAt_succ (l : List Ev) (m : Nat) : qsAt l (m + 1) = (qsAt l m).step (evAt l m) := rfl
theorem qKind_qs (l : List Ev) (m : Nat) : qKind l m = (qsAt l m).kind (evAt l m) := rfl
theorem qs_run (l : List Ev) : ∀ m, m ≤ l.length → Qs.first.run (l.take m) = qsAt l m
  | 0, _ => rfl
  | m + 1, h => by
    rw [List.take_add_one, List.getElem?_eq_getElem (show m < l.length by omega), Option.toList_some, Qs.run, List.foldl_append]
    show (Qs.run Qs.first (l.take m)).step l[m] = _
    rw [qs_run l m (by omega), qsAt_succ, evAt_lt (show m < l.length by omega)]
theorem qFlags_qs (l : List Ev) : ∀ m, m ≤ l.length → qFlags l m = Qs.first.flags 0 (l.take m)
  | 0, _ => rfl
  | m + 1, h => by
    have hm : m < l.length := by omega
    rw [List.take_add_one, List.getElem?_eq_getElem hm, Option.toList_some, Qs.flags_append, ← qFlags_qs l m (by omega), qs_run l m (by omega)]
    have hl : (l.take m).length = m := by simp; omega
    simp only [qFlags, Qs.flags, hl, Nat.zero_add]
    rw [qKind_qs, evAt_lt hm]
    split
    · simp
    · rfl
theorem qFlags_all (l : List Ev) : qFlags l l.length = Qs.first.flags 0 l := by
  rw [qFlags_qs l l.length (Nat.le_refl _), List.take_length]
/-- A flag's place, moved. -/
def atE (g : Int → Int) (f : Ev) : Ev := ⟨g f.k, f.t, f.o⟩
theorem Qs.flags_shift (l : List Ev) : ∀ (s : Qs) (i d : Nat) , s.flags (i + d) l = (s.flags i l).map (atE (· + d)) := by
  induction l with
  | nil => intro s i d; rfl
  | cons e l ih =>
    intro s i d
    simp only [Qs.flags]
    rw [show i + d + 1 = i + 1 + d by omega, ih]
    split
    · rfl
    · simp [atE]
theorem Qs.flags_ge (l : List Ev) : ∀ (s : Qs) (i : Nat), ∀ f ∈ s.flags i l, (i : Int) ≤ f.k ∧ f.k < i + l.length := by
  induction l with
  | nil => intro s i f hf; simp [Qs.flags] at hf
  | cons e l ih =>
    intro s i f hf
    simp only [Qs.flags] at hf
    have hl : ((e :: l).length : Int) = l.length + 1 := by simp
    rw [hl]
    split at hf
    · have := ih _ _ f hf; omega
    · rcases List.mem_cons.1 hf with rfl | h1
      · simp only; omega
      · have := ih _ _ f h1; omega
/-- A Write once more, just behind itself. -/
theorem Qs.again (s : Qs) (e : Ev) (hk : e.k = 2) : (s.step e).step e = s.step e ∧ (s.step e).kind e = 0 := by
  have hf : ∀ f : Fk, fSync f e = f := fun f => by unfold fSync; simp [hk]
  have hw : ∀ (x : Fc) (c : Nat → Int), x.acc e c = x.write e.t.toNat c := fun x c => by simp [Fc.acc, hk]
  have h2 : ∀ (x : Fc) (c : Nat → Int), ((x.write e.t.toNat c).1).write e.t.toNat c = ((x.write e.t.toNat c).1, 0) := by
    intro x c
    have : (x.write e.t.toNat c).1.wt = e.t.toNat ∧ (x.write e.t.toNat c).1.wn = c e.t.toNat := by
      unfold Fc.write
      split
      · rename_i h; exact h
      · split <;> exact ⟨rfl, rfl⟩
    rw [Fc.write, if_pos this]
  refine ⟨?_, ?_⟩
  · simp only [Qs.step, hf, hw]
    congr 1
    funext x
    split
    · rw [h2]
    · rfl
  · simp only [Qs.kind, Qs.step, hf, hw]
    split
    · rw [h2]
    · rfl
theorem qFlags_again (u v : List Ev) (e : Ev) (hk : e.k = 2) :
    qFlags (u ++ e :: e :: v) (u ++ e :: e :: v).length = (qFlags (u ++ e :: v) (u ++ e :: v).length).map (atE fun k => if k > u.length then k + 1 else k) := by
  obtain ⟨h1, h2⟩ := (Qs.first.run u).again e hk
  rw [qFlags_all, qFlags_all, Qs.flags_append, Qs.flags_append, List.map_append]
  have e1 : (Qs.first.flags 0 u).map (atE fun k => if k > u.length then k + 1 else k) = Qs.first.flags 0 u := by
    conv => rhs; rw [← List.map_id (Qs.first.flags 0 u)]
    refine List.map_congr_left fun f hf => ?_
    have := Qs.flags_ge _ _ _ f hf
    simp only [atE]
    rw [if_neg (by omega)]; rfl
  rw [e1]
  congr 1
  generalize Qs.first.run u = s at *
  have h3 : ∀ (s : Qs), (s.flags (u.length + 1 + 1) v) = (s.flags (u.length + 1) v).map (atE fun k => if k > u.length then k + 1 else k) := by
    intro s
    rw [Qs.flags_shift v s (u.length + 1) 1]
    refine List.map_congr_left fun f hf => ?_
    have := Qs.flags_ge _ _ _ f hf
    simp only [atE]
    rw [if_pos (by omega)]; rfl
  simp only [Qs.flags, Nat.zero_add, h2, h1, if_true]
  rw [h3]
  split
  · rfl
  · simp [atE]
/-- What concerns a variable: what is no access, and its accesses. -/
def ofV (x : Nat) (e : Ev) : Bool := decide (e.k > 2) || decide (e.o = x)
/-- The places of what concerns it. -/
def ofAt (x : Nat) : Nat → List Ev → List Int
  | _, [] => []
  | i, e :: l => if ofV x e then (i : Int) :: ofAt x (i + 1) l else ofAt x (i + 1) l
theorem ofAt_len (x : Nat) : ∀ (l : List Ev) (i : Nat), (ofAt x i l).length = (l.filter (ofV x)).length
  | [], _ => rfl
  | e :: l, i => by
    simp only [ofAt, List.filter_cons]
    split <;> simp [ofAt_len x l]
theorem ofAt_append (x : Nat) (m : List Ev) : ∀ (l : List Ev) (i : Nat), ofAt x i (l ++ m) = ofAt x i l ++ ofAt x (i + l.length) m
  | [], _ => rfl
  | e :: l, i => by
    simp only [ofAt, List.cons_append]
    rw [ofAt_append x m l, show i + 1 + l.length = i + (e :: l).length by simp; omega]
    split <;> rfl
theorem ofAt_mem (x : Nat) : ∀ (l : List Ev) (i : Nat), ∀ q ∈ ofAt x i l, (i : Int) ≤ q ∧ q < i + l.length
  | [], _, q, h => by simp [ofAt] at h
  | e :: l, i, q, h => by
    simp only [ofAt] at h
    have hl : ((e :: l).length : Int) = l.length + 1 := by simp
    rw [hl]
    split at h
    · rcases List.mem_cons.1 h with rfl | h1
      · omega
      · have := ofAt_mem x l _ q h1; omega
    · have := ofAt_mem x l _ q h; omega
theorem Qs.flags_of (x : Nat) (l : List Ev) : ∀ (s s' : Qs) (i j : Nat) (g : Int → Int), (∀ e ∈ l, 1 ≤ e.k ∧ 0 ≤ e.o) → s.f = s'.f → s.c x = s'.c x →
    (∀ m q, (ofAt x i l)[m]? = some q → g (j + m : Nat) = q) → (s'.flags j (l.filter (ofV x))).map (atE g) = (s.flags i l).filter (fun f : Ev => decide (f.t = x)) := by
  induction l with
  | nil => intros; rfl
  | cons e l ih =>
    intro s s' i j g hE hf hc hg
    have hE2 : ∀ e ∈ l, 1 ≤ e.k ∧ 0 ≤ e.o := fun e he => hE e (List.mem_cons_of_mem _ he)
    have he := hE e (List.mem_cons_self ..)
    simp only [ofAt] at hg
    by_cases ho : ofV x e = true
    · rw [if_pos ho] at hg
      rw [List.filter_cons_of_pos ho]
      have hg2 : ∀ m q, (ofAt x (i + 1) l)[m]? = some q → g (j + 1 + m : Nat) = q := by
        intro m q hm
        rw [show j + 1 + m = j + (m + 1) by omega]
        exact hg (m + 1) q (by simpa using hm)
      have hg0 : g j = i := hg 0 i (by simp)
      have hst := ih (s.step e) (s'.step e) (i + 1) (j + 1) g hE2 (by simp only [Qs.step]; rw [hf]) (by simp only [Qs.step]; rw [hf, hc]) hg2
      have hk : s'.kind e = s.kind e ∧ (s.kind e ≠ 0 → e.o = x) := by
        by_cases hx : e.o = x
        · have hn : e.o.toNat = x := by omega
          refine ⟨?_, fun _ => hx⟩
          simp only [Qs.kind]
          rw [hn, hc, hf]
        · have h2 : e.k > 2 := by simpa [ofV, hx] using ho
          have hn : ∀ y, isAt e y = false := fun y => by simp [isAt]; omega
          have : ∀ s : Qs, s.kind e = 0 := fun s => by simp only [Qs.kind, hn]; rfl
          rw [this, this]
          exact ⟨rfl, fun h => absurd rfl h⟩
      simp only [Qs.flags]
      rw [hk.1]
      by_cases hz : s.kind e = 0
      · rw [if_pos hz, if_pos hz]; exact hst
      · rw [if_neg hz, if_neg hz, List.map_cons, List.filter_cons_of_pos (by simpa using hk.2 hz), hst]
        simp [atE, hg0]
    · have ho' : ofV x e = false := by simpa using ho
      rw [if_neg ho] at hg
      rw [List.filter_cons_of_neg ho]
      have h1 : e.k ≤ 2 ∧ e.o ≠ x := by simpa [ofV] using ho'
      have hfe : ∀ f : Fk, fSync f e = f := fun f => by unfold fSync; rw [if_neg (by omega), if_neg (by omega), if_neg (by omega), if_neg (by omega), if_neg (by omega), if_neg (by omega)]
      have hst := ih (s.step e) s' (i + 1) j g hE2 (by simp only [Qs.step]; rw [hfe, hf]) (by
        simp only [Qs.step]
        rw [if_neg (by simp [isAt]; omega), hc]) hg
      rw [hst]
      simp only [Qs.flags]
      split
      · rfl
      · rw [List.filter_cons_of_neg (by simp; omega)]
/-- Of a trace's events, those that concern one variable: flags, and a valid trace. -/
theorem qFlags_of {l : List Ev} (hE : ∀ e ∈ l, isEv e = true) (x : Nat) (g : Int → Int) (hg : ∀ (m : Nat) q, (ofAt x 0 l)[m]? = some q → g m = q) :
    (qFlags (l.filter (ofV x)) (l.filter (ofV x)).length).map (atE g) = (qFlags l l.length).filter (fun f : Ev => decide (f.t = x)) := by
  rw [qFlags_all, qFlags_all]
  refine Qs.flags_of x l _ _ 0 0 g (fun e he => ?_) rfl rfl (fun m q hm => by rw [Nat.zero_add]; exact hg m q hm)
  have h := isEv_iff.1 (hE e he)
  have h2 := manyOf_pos (show 0 < manyOf e.k by omega)
  omega
theorem playL_of (x : Nat) (l : List Ev) : ∀ (s : St) (i j : Nat), (playL s i l).2.2 = 0 → (playL s j (l.filter (ofV x))).2.2 = 0 := by
  induction l with
  | nil => intros; rfl
  | cons e l ih =>
    intro s i j h
    simp only [playL] at h
    split at h
    · rename_i h0
      by_cases ho : ofV x e = true
      · rw [List.filter_cons_of_pos ho]
        simp only [playL]
        rw [if_pos h0]
        exact ih _ _ _ h
      · have ho' : ofV x e = false := by simpa using ho
        rw [List.filter_cons_of_neg ho]
        have h1 : e.k ≤ 2 ∧ e.o ≠ x := by simpa [ofV] using ho'
        have hn : nxt s e = s := by unfold nxt; rw [if_neg (by omega), if_neg (by omega), if_neg (by omega), if_neg (by omega)]
        rw [hn] at h
        exact ih _ _ _ h
    · rename_i he; exact absurd h he
theorem mayB_of {l : List Ev} (h : mayB l = true) (x : Nat) : mayB (l.filter (ofV x)) = true := by
  obtain ⟨h1, h2⟩ := mayB_iff.1 h
  exact mayB_iff.2 ⟨Nat.le_trans (List.length_filter_le ..) h1, playL_of x l _ _ _ h2⟩
theorem playL_again (u v : List Ev) (e : Ev) (hk : e.k = 2) (s : St) (i : Nat) (h : (playL s i (u ++ e :: v)).2.2 = 0) : (playL s i (u ++ e :: e :: v)).2.2 = 0 := by
  have hidx : ∀ (l : List Ev) (s : St) (i j : Nat), (playL s i l).2.2 = (playL s j l).2.2 := by
    intro l
    induction l with
    | nil => intros; rfl
    | cons e l ih => intro s i j; simp only [playL]; split <;> first | exact ih _ _ _ | rfl
  have hn : ∀ s, nxt s e = s := fun s => by unfold nxt; rw [if_neg (by omega), if_neg (by omega), if_neg (by omega), if_neg (by omega)]
  rw [playL_append] at h ⊢
  split at h
  · rename_i h0
    rw [if_pos h0]
    simp only [playL, hn] at h ⊢
    split at h
    · rename_i h1
      rw [if_pos h1, if_pos h1, hidx v _ _ (i + u.length + 1)]
      exact h
    · rename_i he; exact absurd h he
  · rename_i h0; exact absurd h h0
end Go.Proofs.YtmeidjhojanogaaDoor
