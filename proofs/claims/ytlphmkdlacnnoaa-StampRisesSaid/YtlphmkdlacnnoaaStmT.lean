/- Clocks of events and happens-before (Fidge, Mattern). No program. -/
import Derived.Test.YtlphmkdlacnnoaaStm
import Derived.Test.YtlphmkdlacnnoaaOrdT
namespace Go.Proofs.Ytlphmkdlacnnoaa

/-- The greatest of C over the places below j that satisfy P (0: there are none). -/
structure Top (j : Nat) (P : Nat → Prop) (C : Nat → Nat → Int) (τ : Nat) (m : Int) : Prop where
  le : ∀ i, i < j → P i → C i τ ≤ m
  is : m = 0 ∨ ∃ i, i < j ∧ P i ∧ m = C i τ
theorem Top.both {j : Nat} {P Q S : Nat → Prop} {C : Nat → Nat → Int} {τ : Nat} {m n : Int} (h : Top j P C τ m) (k : Top j Q C τ n) (hs : ∀ i, S i ↔ P i ∨ Q i) : Top j S C τ (max m n) := by
  constructor
  · intro i hi hS
    rcases (hs i).1 hS with h1 | h1
    · have := h.le i hi h1; omega
    · have := k.le i hi h1; omega
  · rcases (by omega : max m n = m ∨ max m n = n) with e | e
    · rw [e]; rcases h.is with h0 | ⟨i, h1, h2, h3⟩
      · exact .inl h0
      · exact .inr ⟨i, h1, (hs i).2 (.inl h2), h3⟩
    · rw [e]; rcases k.is with h0 | ⟨i, h1, h2, h3⟩
      · exact .inl h0
      · exact .inr ⟨i, h1, (hs i).2 (.inr h2), h3⟩
theorem Top.same {j : Nat} {P Q : Nat → Prop} {C : Nat → Nat → Int} {τ : Nat} {m : Int} (h : Top j P C τ m) (hs : ∀ i, i < j → (Q i ↔ P i)) : Top j Q C τ m :=
  ⟨fun i hi hq => h.le i hi ((hs i hi).1 hq), by
    rcases h.is with h0 | ⟨i, h1, h2, h3⟩
    · exact .inl h0
    · exact .inr ⟨i, h1, (hs i h1).2 h2, h3⟩⟩
theorem Top.next {j : Nat} {P : Nat → Prop} {C : Nat → Nat → Int} {τ : Nat} {m : Int} (h : Top j P C τ m) (hn : ¬ P j) : Top (j + 1) P C τ m :=
  ⟨fun i hi hp => by
    by_cases e : i = j
    · subst e; exact absurd hp hn
    · exact h.le i (by omega) hp, by
    rcases h.is with h0 | ⟨i, h1, h2, h3⟩
    · exact .inl h0
    · exact .inr ⟨i, by omega, h2, h3⟩⟩
/-- Place j is more than all that is there. -/
theorem Top.own {j : Nat} {P : Nat → Prop} {C : Nat → Nat → Int} {τ : Nat} (hP : P j) (hle : ∀ i, i < j → P i → C i τ ≤ C j τ) : Top (j + 1) P C τ (C j τ) :=
  ⟨fun i hi hp => by
    by_cases e : i = j
    · subst e; exact Int.le_refl _
    · exact hle i (by omega) hp, .inr ⟨j, by omega, hP, rfl⟩⟩
theorem Top.join {j : Nat} {P : Nat → Prop} {C : Nat → Nat → Int} {τ : Nat} {m : Int} (h : Top j P C τ m) (hP : P j) : Top (j + 1) P C τ (max m (C j τ)) :=
  ⟨fun i hi hp => by
    by_cases e : i = j
    · subst e; omega
    · have := h.le i (by omega) hp; omega, by
    rcases (by omega : max m (C j τ) = m ∨ max m (C j τ) = C j τ) with e | e
    · rw [e]; rcases h.is with h0 | ⟨i, h1, h2, h3⟩
      · exact .inl h0
      · exact .inr ⟨i, by omega, h2, h3⟩
    · rw [e]; exact .inr ⟨j, by omega, hP, rfl⟩⟩

section
variable {l : List Ev} (h : (played l).2.2 = 0)
/-- What each clock of the keeper is, ahead of place j. -/
structure KInv (l : List Ev) (j : Nat) : Prop where
  th : ∀ t τ : Nat, Top j (fun i => (evAt l i).t = t ∨ ((evAt l i).k = 5 ∧ (evAt l i).o = t)) (stampOf l) τ ((kAt l j).th t τ)
  lk : ∀ o τ : Nat, Top j (fun i => (evAt l i).k = 4 ∧ (evAt l i).o = o) (stampOf l) τ ((kAt l j).lk o τ)
  vo : ∀ o τ : Nat, Top j (fun i => (evAt l i).k = 8 ∧ (evAt l i).o = o) (stampOf l) τ ((kAt l j).vo o τ)
  nn : ∀ i, i < j → ∀ τ, 0 ≤ stampOf l i τ
include h
/-- What an event knows ahead of its tick: the most of what is directly ahead. -/
theorem pre_top {j : Nat} (hj : j < l.length) (hI : KInv l j) (τ : Nat) : Top j (fun i => dirE (evAt l i) (evAt l j) = true) (stampOf l) τ (kPre (kAt l j) (evAt l j) τ) := by
  obtain ⟨b1, b2, b3, b4⟩ := ev_at h hj
  have et : ((evAt l j).t.toNat : Int) = (evAt l j).t := by omega
  have eo : ((evAt l j).o.toNat : Int) = (evAt l j).o := by omega
  have h1 := hI.th (evAt l j).t.toNat τ
  unfold kPre
  split
  · rename_i k3
    refine Top.both h1 (hI.lk (evAt l j).o.toNat τ) fun i => ?_
    rw [dirE_iff, et, eo]
    omega
  · split
    · rename_i k3
      refine Top.both h1 (hI.vo (evAt l j).o.toNat τ) fun i => ?_
      rw [dirE_iff, et, eo]
      omega
    · split
      · rename_i k3
        refine Top.both h1 (hI.th (evAt l j).o.toNat τ) fun i => ?_
        rw [dirE_iff, et, eo]
        omega
      · refine h1.same fun i hi => ?_
        rw [dirE_iff, et]
        omega
theorem kinv : ∀ j, j ≤ l.length → KInv l j := by
  intro j
  induction j with
  | zero => exact fun _ => ⟨fun _ _ => ⟨fun _ h => by omega, .inl rfl⟩, fun _ _ => ⟨fun _ h => by omega, .inl rfl⟩, fun _ _ => ⟨fun _ h => by omega, .inl rfl⟩, fun _ h => by omega⟩
  | succ j ih =>
    intro hj1
    have hj : j < l.length := by omega
    have hI := ih (by omega)
    obtain ⟨b1, b2, b3, b4⟩ := ev_at h hj
    have et : ((evAt l j).t.toNat : Int) = (evAt l j).t := by omega
    have eo : ((evAt l j).o.toNat : Int) = (evAt l j).o := by omega
    have hp := pre_top h hj hI
    have hm : ∀ τ, stampOf l j τ = if τ = (evAt l j).t.toNat then kPre (kAt l j) (evAt l j) τ + 1 else kPre (kAt l j) (evAt l j) τ := fun τ => rfl
    have hge : ∀ i τ, i < j → dirE (evAt l i) (evAt l j) = true → stampOf l i τ ≤ stampOf l j τ := by
      intro i τ hi hd
      have := (hp τ).le i hi hd
      rw [hm]; split <;> omega
    have hnn : ∀ i, i < j + 1 → ∀ τ, 0 ≤ stampOf l i τ := by
      intro i hi τ
      by_cases e : i = j
      · subst e
        have h0 : 0 ≤ kPre (kAt l i) (evAt l i) τ := by
          rcases (hp τ).is with h0 | ⟨q, h1, _, h3⟩
          · omega
          · rw [h3]; exact hI.nn q h1 τ
        rw [hm]; split <;> omega
      · exact hI.nn i (by omega) τ
    -- the thread's own clock
    have hown : ∀ τ, Top (j + 1) (fun i => (evAt l i).t = (evAt l j).t ∨ ((evAt l i).k = 5 ∧ (evAt l i).o = (evAt l j).t)) (stampOf l) τ (stampOf l j τ) := by
      intro τ
      refine Top.own (.inl rfl) fun i hi hP => hge i τ hi (dirE_iff.2 ?_)
      rcases hP with h1 | h1
      · exact .inl h1
      · exact .inr (.inr (.inl h1))
    have hnoself : (evAt l j).k = 5 → (evAt l j).o ≠ (evAt l j).t := by
      intro k5 e
      have := fork_lt h hj hj k5 e.symm
      omega
    have hth : ∀ t : Nat, (t : Int) ≠ (evAt l j).t → ((evAt l j).k = 5 → (evAt l j).o ≠ t) → ∀ τ, Top (j + 1) (fun i => (evAt l i).t = t ∨ ((evAt l i).k = 5 ∧ (evAt l i).o = t)) (stampOf l) τ ((kAt l j).th t τ) := by
      intro t h1 h2 τ
      refine (hI.th t τ).next ?_
      rintro (h3 | ⟨h3, h4⟩)
      · exact h1 h3.symm
      · exact h2 h3 h4
    have hlk : (evAt l j).k ≠ 4 → ∀ o τ : Nat, Top (j + 1) (fun i => (evAt l i).k = 4 ∧ (evAt l i).o = o) (stampOf l) τ ((kAt l j).lk o τ) :=
      fun h1 o τ => (hI.lk o τ).next fun h2 => h1 h2.1
    have hvo : (evAt l j).k ≠ 8 → ∀ o τ : Nat, Top (j + 1) (fun i => (evAt l i).k = 8 ∧ (evAt l i).o = o) (stampOf l) τ ((kAt l j).vo o τ) :=
      fun h1 o τ => (hI.vo o τ).next fun h2 => h1 h2.1
    have hthr : (evAt l j).k ≠ 5 → ∀ t τ : Nat, Top (j + 1) (fun i => (evAt l i).t = t ∨ ((evAt l i).k = 5 ∧ (evAt l i).o = t)) (stampOf l) τ (updC (kAt l j).th (evAt l j).t.toNat (stampOf l j) t τ) := by
      intro h5 t τ
      unfold updC
      by_cases e : t = (evAt l j).t.toNat
      · rw [if_pos e, e, et]; exact hown τ
      · rw [if_neg e]; exact hth t (by omega) (fun k => absurd k h5) τ
    have hk : kAt l (j + 1) = kNext (kAt l j) (evAt l j) := rfl
    have hs : kMine (kAt l j) (evAt l j) = stampOf l j := rfl
    rcases (by omega : (evAt l j).k = 4 ∨ (evAt l j).k = 8 ∨ (evAt l j).k = 5 ∨ ((evAt l j).k ≠ 4 ∧ (evAt l j).k ≠ 8 ∧ (evAt l j).k ≠ 5)) with k | k | k | ⟨k4, k8, k5⟩
    · have e : kNext (kAt l j) (evAt l j) = { kAt l j with th := updC (kAt l j).th (evAt l j).t.toNat (stampOf l j), lk := updC (kAt l j).lk (evAt l j).o.toNat (cmax ((kAt l j).lk (evAt l j).o.toNat) (stampOf l j)) } := by simp [kNext, k, hs]
      refine ⟨?_, ?_, ?_, hnn⟩
      · rw [hk, e]; exact hthr (by omega)
      · rw [hk, e]
        intro o τ
        simp only [updC]
        by_cases e2 : o = (evAt l j).o.toNat
        · rw [if_pos e2, e2]
          exact Top.join (hI.lk _ τ) ⟨k, eo.symm⟩
        · rw [if_neg e2]
          exact (hI.lk o τ).next fun h2 => by omega
      · rw [hk, e]; exact hvo (by omega)
    · have e : kNext (kAt l j) (evAt l j) = { kAt l j with th := updC (kAt l j).th (evAt l j).t.toNat (stampOf l j), vo := updC (kAt l j).vo (evAt l j).o.toNat (cmax ((kAt l j).vo (evAt l j).o.toNat) (stampOf l j)) } := by simp [kNext, k, hs]
      refine ⟨?_, ?_, ?_, hnn⟩
      · rw [hk, e]; exact hthr (by omega)
      · rw [hk, e]; exact hlk (by omega)
      · rw [hk, e]
        intro o τ
        simp only [updC]
        by_cases e2 : o = (evAt l j).o.toNat
        · rw [if_pos e2, e2]
          exact Top.join (hI.vo _ τ) ⟨k, eo.symm⟩
        · rw [if_neg e2]
          exact (hI.vo o τ).next fun h2 => by omega
    · have e : kNext (kAt l j) (evAt l j) = { kAt l j with th := updC (updC (kAt l j).th (evAt l j).t.toNat (stampOf l j)) (evAt l j).o.toNat (stampOf l j) } := by simp [kNext, k, hs]
      have hne := hnoself k
      refine ⟨?_, ?_, ?_, hnn⟩
      · rw [hk, e]
        intro t τ
        simp only [updC]
        by_cases e2 : t = (evAt l j).o.toNat
        · rw [if_pos e2]
          refine ⟨fun i hi hP => ?_, .inr ⟨j, by omega, .inr ⟨k, by omega⟩, rfl⟩⟩
          rcases hP with h1 | ⟨h1, h2⟩
          · have := fork_lt h hj (show i < l.length by omega) k (by omega); omega
          · by_cases e3 : i = j
            · subst e3; exact Int.le_refl _
            · exfalso
              have a1 := (err0 ((ok_at h).1 j hj)).2.2.2.2.2.1 k
              have a2 : (stAt l (i + 1)).begun (evAt l i).o.toNat = true := by
                rw [stAt, stFrom_succ _ _ _ (by omega)]
                simp [nxt, h1, updB]
              have a3 := begun_mono (show i + 1 ≤ j by omega) (by omega) a2
              rw [show (evAt l i).o.toNat = (evAt l j).o.toNat by omega, a1] at a3
              cases a3
        · rw [if_neg e2]
          by_cases e3 : t = (evAt l j).t.toNat
          · rw [if_pos e3, e3, et]; exact hown τ
          · rw [if_neg e3]; exact hth t (by omega) (fun _ => by omega) τ
      · rw [hk, e]; exact hlk (by omega)
      · rw [hk, e]; exact hvo (by omega)
    · have e : kNext (kAt l j) (evAt l j) = { kAt l j with th := updC (kAt l j).th (evAt l j).t.toNat (stampOf l j) } := by simp [kNext, k4, k8, k5, hs]
      exact ⟨by rw [hk, e]; exact hthr k5, by rw [hk, e]; exact hlk k4, by rw [hk, e]; exact hvo k8, hnn⟩
/-- The clock of an event: the most of those directly ahead, and a tick. -/
theorem stamp_top {j : Nat} (hj : j < l.length) (τ : Nat) : ∃ m, Top j (fun i => dirE (evAt l i) (evAt l j) = true) (stampOf l) τ m ∧ stampOf l j τ = if τ = (evAt l j).t.toNat then m + 1 else m :=
  ⟨_, pre_top h hj (kinv h j (by omega)) τ, rfl⟩
theorem stamp_nn {j : Nat} (hj : j < l.length) (τ : Nat) : 0 ≤ stampOf l j τ := (kinv h l.length (Nat.le_refl _)).nn j hj τ
theorem stamp_dir {i j : Nat} (hij : i < j) (hj : j < l.length) (hd : dirE (evAt l i) (evAt l j) = true) (τ : Nat) : stampOf l i τ ≤ stampOf l j τ := by
  obtain ⟨m, h1, h2⟩ := stamp_top h hj τ
  have := h1.le i hij hd
  rw [h2]; split <;> omega
theorem stamp_R {i : Nat} : ∀ {j : Nat}, j < l.length → R l j i = true → ∀ τ, stampOf l i τ ≤ stampOf l j τ := by
  intro j
  induction j using Nat.strongRecOn with
  | _ j ih =>
    intro hj hR τ
    obtain ⟨q, h1, h2, rfl | h3⟩ := (spec_all l j i).1 hR
    · exact stamp_dir h h1 hj h2 τ
    · exact Int.le_trans (ih q h1 (by omega) h3 τ) (stamp_dir h h1 hj h2 τ)
end
/-- How many events of thread τ are below place n. -/
def cntT (l : List Ev) (τ : Int) : Nat → Int
  | 0 => 0
  | n + 1 => if (evAt l n).t = τ then cntT l τ n + 1 else cntT l τ n
theorem cntT_mono (l : List Ev) (τ : Int) {a b : Nat} (hab : a ≤ b) : cntT l τ a ≤ cntT l τ b := by
  induction b with
  | zero => obtain rfl : a = 0 := by omega
            exact Int.le_refl _
  | succ b ih =>
    by_cases e : a = b + 1
    · subst e; exact Int.le_refl _
    · have := ih (by omega)
      simp only [cntT]; split <;> omega
theorem cntT_nn (l : List Ev) (τ : Int) (n : Nat) : 0 ≤ cntT l τ n := cntT_mono l τ (Nat.zero_le n)
theorem cntT_le (l : List Ev) (τ : Int) (n : Nat) : cntT l τ n ≤ n := by
  induction n with
  | zero => exact Int.le_refl _
  | succ n ih => simp only [cntT]; split <;> omega
/-- Which one an event is of its thread, from 1. -/
def rkE (l : List Ev) (i : Nat) : Int := cntT l (evAt l i).t (i + 1)
theorem rkE_eq (l : List Ev) (i : Nat) : rkE l i = cntT l (evAt l i).t i + 1 := by simp [rkE, cntT]
theorem rkE_lt {l : List Ev} {i j : Nat} (hij : i < j) (ht : (evAt l i).t = (evAt l j).t) : rkE l i < rkE l j := by
  rw [rkE_eq l j, rkE, ht]
  have := cntT_mono l (evAt l j).t (show i + 1 ≤ j by omega)
  omega
/-- The last event of a thread below a place. -/
theorem last_of (l : List Ev) (τ : Int) : ∀ n, cntT l τ n = 0 ∨ ∃ i, i < n ∧ (evAt l i).t = τ ∧ cntT l τ n = rkE l i := by
  intro n
  induction n with
  | zero => exact .inl rfl
  | succ n ih =>
    simp only [cntT]
    by_cases e : (evAt l n).t = τ
    · rw [if_pos e]
      exact .inr ⟨n, by omega, e, by rw [rkE_eq, e]⟩
    · rw [if_neg e]
      rcases ih with h0 | ⟨i, h1, h2, h3⟩
      · exact .inl h0
      · exact .inr ⟨i, by omega, h2, h3⟩
theorem none_of (l : List Ev) (τ : Int) {n i : Nat} (h : cntT l τ n = 0) (hi : i < n) : (evAt l i).t ≠ τ := by
  intro e
  have h1 := cntT_mono l τ (show i + 1 ≤ n by omega)
  have h2 := cntT_nn l τ i
  simp only [cntT, if_pos e] at h1
  omega
section
variable {l : List Ev} (h : (played l).2.2 = 0)
include h
/-- An event's clock at a thread: the rank of the last event of that thread that is ahead, or is the event itself. -/
theorem stamp_rank : ∀ {j : Nat}, j < l.length → (∀ x, x = j ∨ R l j x = true → rkE l x ≤ stampOf l j (evAt l x).t.toNat) ∧ (∀ τ : Nat, stampOf l j τ = 0 ∨ ∃ x, (x = j ∨ R l j x = true) ∧ (evAt l x).t = τ ∧ stampOf l j τ = rkE l x) ∧ stampOf l j (evAt l j).t.toNat = rkE l j := by
  intro j
  induction j using Nat.strongRecOn with
  | _ j ih =>
    intro hj
    obtain ⟨b1, b2, b3, b4⟩ := ev_at h hj
    have et : ((evAt l j).t.toNat : Int) = (evAt l j).t := by omega
    -- its own thread
    have hown : stampOf l j (evAt l j).t.toNat = rkE l j := by
      obtain ⟨m, h1, h2⟩ := stamp_top h hj (evAt l j).t.toNat
      rw [if_pos rfl] at h2
      rw [h2, rkE_eq]
      have hle : m ≤ cntT l (evAt l j).t j := by
        rcases h1.is with h0 | ⟨i, h3, h4, h5⟩
        · rw [h0]; exact cntT_nn _ _ _
        · rcases (ih i h3 (by omega)).2.1 (evAt l j).t.toNat with h6 | ⟨x, h6, h7, h8⟩
          · rw [h5, h6]; exact cntT_nn _ _ _
          · rw [h5, h8, rkE, h7, et]
            have : x ≤ i := by rcases h6 with rfl | h6; omega; have := R_lt h6; omega
            exact cntT_mono _ _ (by omega)
      have hge : cntT l (evAt l j).t j ≤ m := by
        rcases last_of l (evAt l j).t j with h0 | ⟨i, h3, h4, h5⟩
        · rw [h0]
          rcases h1.is with h6 | ⟨i, h7, h8, h9⟩
          · omega
          · rw [h9]; exact stamp_nn h (by omega) _
        · rw [h5, ← (ih i h3 (by omega)).2.2, h4]
          exact h1.le i h3 (dirE_iff.2 (.inl h4))
      omega
    refine ⟨?_, ?_, hown⟩
    · rintro x (rfl | hR)
      · rw [hown]; exact Int.le_refl _
      · obtain ⟨q, h1, h2, h3⟩ := (spec_all l j x).1 hR
        have := (ih q h1 (by omega)).1 x (by rcases h3 with rfl | h3; exact .inl rfl; exact .inr h3)
        exact Int.le_trans this (stamp_dir h h1 hj h2 _)
    · intro τ
      by_cases e : τ = (evAt l j).t.toNat
      · subst e
        exact .inr ⟨j, .inl rfl, et.symm, hown⟩
      · obtain ⟨m, h1, h2⟩ := stamp_top h hj τ
        rw [if_neg e] at h2
        rcases h1.is with h0 | ⟨i, h3, h4, h5⟩
        · exact .inl (by rw [h2, h0])
        · rcases (ih i h3 (by omega)).2.1 τ with h6 | ⟨x, h6, h7, h8⟩
          · exact .inl (by rw [h2, h5, h6])
          · refine .inr ⟨x, .inr ?_, h7, by rw [h2, h5, h8]⟩
            rcases h6 with rfl | h6
            · exact R_dir h3 h4
            · exact R_trans (R_dir h3 h4) h6
/-- FIDGE; MATTERN. -/
theorem mattern {i j : Nat} (hi : i < l.length) (hj : j < l.length) (hij : i ≠ j) : R l j i = cle (stampOf l i) (stampOf l j) := by
  apply Bool.eq_iff_iff.2
  rw [cle_iff]
  constructor
  · exact fun hR τ _ => stamp_R h hj hR τ
  · intro hle
    obtain ⟨b1, b2, b3, b4⟩ := ev_at h hi
    have et : ((evAt l i).t.toNat : Int) = (evAt l i).t := by omega
    have h1 := hle (evAt l i).t.toNat (by omega)
    rw [(stamp_rank h hi).2.2] at h1
    have hpos : 1 ≤ rkE l i := by rw [rkE_eq]; have := cntT_nn l (evAt l i).t i; omega
    rcases (stamp_rank h hj).2.1 (evAt l i).t.toNat with h2 | ⟨x, h2, h3, h4⟩
    · omega
    · rw [et] at h3
      rw [h4] at h1
      have hxi : i ≤ x := by
        by_cases hh : x < i
        · have := rkE_lt hh h3; omega
        · omega
      rcases h2 with rfl | h2
      · exact R_dir (by omega) (dirE_iff.2 (.inl h3.symm))
      · by_cases e : x = i
        · subst e; exact h2
        · exact R_trans h2 (R_dir (by omega) (dirE_iff.2 (.inl h3.symm)))
theorem stamp_own {i : Nat} (hi : i < l.length) : stampOf l i (evAt l i).t.toNat = cntT l (evAt l i).t (i + 1) := (stamp_rank h hi).2.2
theorem stamp_many {i : Nat} (hi : i < l.length) (τ : Nat) : stampOf l i τ ≤ cntT l τ (i + 1) := by
  rcases (stamp_rank h hi).2.1 τ with h2 | ⟨x, h2, h3, h4⟩
  · rw [h2]; exact cntT_nn _ _ _
  · rw [h4, rkE, h3]
    have : x ≤ i := by rcases h2 with rfl | h2; omega; have := R_lt h2; omega
    exact cntT_mono _ _ (by omega)
end
end Go.Proofs.Ytlphmkdlacnnoaa
