/- An access is known by its epoch: it happens before a later access exactly if that one's thread has seen its epoch. No program. -/
import Derived.Test.YtdhbgbneadcmiaaFul
namespace Go.Proofs.Ytdhbgbneadcmiaa

/-- Thread u knows of event i, ahead of place m. -/
def Kn (l : List Ev) (u i m : Nat) : Prop := ∃ q, q < m ∧ ((evAt l q).t = u ∨ ((evAt l q).k = 5 ∧ (evAt l q).o = u)) ∧ R l q i = true
/-- A Release, a Show of o, ahead of place m, knows of event i. -/
def Kr (l : List Ev) (k : Int) (o i m : Nat) : Prop := ∃ q, q < m ∧ (evAt l q).k = k ∧ (evAt l q).o = o ∧ R l q i = true
theorem Kn_succ {l : List Ev} {u i m : Nat} : Kn l u i (m + 1) ↔ Kn l u i m ∨ (((evAt l m).t = u ∨ ((evAt l m).k = 5 ∧ (evAt l m).o = u)) ∧ R l m i = true) := by
  constructor
  · rintro ⟨q, h1, h2, h3⟩
    by_cases e : q = m
    · subst e; exact .inr ⟨h2, h3⟩
    · exact .inl ⟨q, by omega, h2, h3⟩
  · rintro (⟨q, h1, h2, h3⟩ | ⟨h2, h3⟩)
    · exact ⟨q, by omega, h2, h3⟩
    · exact ⟨m, by omega, h2, h3⟩
theorem Kr_succ {l : List Ev} {k : Int} {o i m : Nat} : Kr l k o i (m + 1) ↔ Kr l k o i m ∨ ((evAt l m).k = k ∧ (evAt l m).o = o ∧ R l m i = true) := by
  constructor
  · rintro ⟨q, h1, h2, h3, h4⟩
    by_cases e : q = m
    · subst e; exact .inr ⟨h2, h3, h4⟩
    · exact .inl ⟨q, by omega, h2, h3, h4⟩
  · rintro (⟨q, h1, h2, h3, h4⟩ | ⟨h2, h3, h4⟩)
    · exact ⟨q, by omega, h2, h3, h4⟩
    · exact ⟨m, by omega, h2, h3, h4⟩
section
variable {l : List Ev} (h : (played l).2.2 = 0)
include h
/-- What is directly ahead of event m, by its kind. -/
theorem R_kinds {i m : Nat} (hi : i < m) (hm : m < l.length) (hacc : (evAt l i).k = 1 ∨ (evAt l i).k = 2) :
    R l m i = true ↔ (evAt l m).t.toNat = (evAt l i).t.toNat ∨ Kn l (evAt l m).t.toNat i m ∨ ((evAt l m).k = 3 ∧ Kr l 4 (evAt l m).o.toNat i m) ∨ ((evAt l m).k = 7 ∧ Kr l 8 (evAt l m).o.toNat i m) ∨
      ((evAt l m).k = 6 ∧ ((evAt l m).o.toNat = (evAt l i).t.toNat ∨ Kn l (evAt l m).o.toNat i m)) := by
  have et := tn h hm
  have eo := on h hm
  have ei := tn h (show i < l.length by omega)
  rw [spec_all l m i]
  constructor
  · rintro ⟨x, h1, h2, h3⟩
    rw [dirE_iff] at h2
    rcases h3 with rfl | h3
    · rcases h2 with h2 | ⟨h2, h4⟩ | h2 | h2
      · exact .inl (by omega)
      · omega
      · omega
      · exact .inr (.inr (.inr (.inr ⟨h2.1, .inl (by omega)⟩)))
    · rcases h2 with h2 | ⟨h2 | h2 | h2, h4⟩ | h2 | h2
      · exact .inr (.inl ⟨x, h1, .inl (by omega), h3⟩)
      · exact .inr (.inr (.inl ⟨h2.2, x, h1, h2.1, by omega, h3⟩))
      · exact .inr (.inr (.inr (.inl ⟨h2.2, x, h1, h2.1, by omega, h3⟩)))
      · exact .inr (.inr (.inr (.inr ⟨h2.2, .inr ⟨x, h1, .inr ⟨h2.1, by omega⟩, h3⟩⟩)))
      · exact .inr (.inl ⟨x, h1, .inr ⟨h2.1, by omega⟩, h3⟩)
      · exact .inr (.inr (.inr (.inr ⟨h2.1, .inr ⟨x, h1, .inl (by omega), h3⟩⟩)))
  · rintro (h1 | ⟨x, h1, h2, h3⟩ | ⟨h1, x, h2, h3, h4, h5⟩ | ⟨h1, x, h2, h3, h4, h5⟩ | ⟨h1, h2 | ⟨x, h2, h3, h4⟩⟩)
    · exact ⟨i, hi, dirE_iff.2 (.inl (by omega)), .inl rfl⟩
    · refine ⟨x, h1, dirE_iff.2 ?_, .inr h3⟩
      rcases h2 with h2 | h2
      · exact .inl (by omega)
      · exact .inr (.inr (.inl ⟨h2.1, by omega⟩))
    · exact ⟨x, h2, dirE_iff.2 (.inr (.inl ⟨.inl ⟨h3, h1⟩, by omega⟩)), .inr h5⟩
    · exact ⟨x, h2, dirE_iff.2 (.inr (.inl ⟨.inr (.inl ⟨h3, h1⟩), by omega⟩)), .inr h5⟩
    · exact ⟨i, hi, dirE_iff.2 (.inr (.inr (.inr ⟨h1, by omega⟩))), .inl rfl⟩
    · refine ⟨x, h2, dirE_iff.2 ?_, .inr h4⟩
      rcases h3 with h3 | h3
      · exact .inr (.inr (.inr ⟨h1, by omega⟩))
      · exact .inr (.inl ⟨.inr (.inr ⟨h3.1, h1⟩), by omega⟩)
/-- What is known of event i, of thread t and epoch n, in a state of clocks. -/
structure EI (s : Fk) (t : Nat) (n : Int) (K : Nat → Prop) (L V : Nat → Prop) : Prop where
  own : n ≤ s.C t t
  th : ∀ u, u ≠ t → (n ≤ s.C u t ↔ K u)
  lk : ∀ o, (n ≤ s.lk o t ↔ L o)
  vo : ∀ o, (n ≤ s.vo o t ↔ V o)
end
set_option maxHeartbeats 8000000 in
theorem EI.step {s : Fk} {e : Ev} {t : Nat} {n : Int} {K K' L L' V V' : Nat → Prop} {Rm : Prop} (hI : EI s t n K L V) (hk : 1 ≤ e.k ∧ e.k ≤ 8)
    (h5 : e.k = 5 → e.o.toNat ≠ e.t.toNat ∧ e.o.toNat ≠ t)
    (hR : Rm ↔ e.t.toNat = t ∨ K e.t.toNat ∨ (e.k = 3 ∧ L e.o.toNat) ∨ (e.k = 7 ∧ V e.o.toNat) ∨ (e.k = 6 ∧ (e.o.toNat = t ∨ K e.o.toNat)))
    (hK : ∀ u, K' u ↔ K u ∨ ((e.t.toNat = u ∨ (e.k = 5 ∧ e.o.toNat = u)) ∧ Rm)) (hL : ∀ o, L' o ↔ if e.k = 4 ∧ e.o.toNat = o then Rm else L o) (hV : ∀ o, V' o ↔ V o ∨ (e.k = 8 ∧ e.o.toNat = o ∧ Rm)) :
    EI (fSync s e) t n K' L' V' := by
  obtain ⟨own, th, lk, vo⟩ := hI
  unfold fSync
  generalize e.t.toNat = a at *
  generalize e.o.toNat = b at *
  generalize e.k = k at *
  have tha := th a
  have thb := th b
  have lkb := lk b
  have vob := vo b
  repeat' split
  all_goals
    refine ⟨?_, fun u hu => ?_, fun o => ?_, fun o => ?_⟩
    · try simp only [upF]
      clear th lk vo hR hK hL hV tha thb lkb vob
      (repeat' (first | split | simp only [cmax] | simp only [tkF])) <;> (try subst_vars) <;> (first | omega | (simp_all; try omega))
    · have thu := th u hu
      have hKu := hK u
      clear th lk vo hK hL hV
      try simp only [upF]
      (repeat' (first | split | simp only [cmax] | simp only [tkF])) <;> grind
    · have lko := lk o
      have hLo := hL o
      clear th lk vo hK hL hV
      try simp only [upF]
      (repeat' (first | split | simp only [cmax] | simp only [tkF])) <;> grind
    · have voo := vo o
      have hVo := hV o
      clear th lk vo hK hL hV
      try simp only [upF]
      (repeat' (first | split | simp only [cmax] | simp only [tkF])) <;> grind
section
variable {l : List Ev} (h : (played l).2.2 = 0)
include h
omit h in
theorem fAt_acc {i : Nat} (hacc : (evAt l i).k = 1 ∨ (evAt l i).k = 2) : fAt l (i + 1) = fAt l i := by
  show fSync (fAt l i) (evAt l i) = fAt l i
  unfold fSync
  rcases hacc with e | e <;> simp [e]
theorem ei_at {i : Nat} (hacc : (evAt l i).k = 1 ∨ (evAt l i).k = 2) : ∀ m, i < m → m ≤ l.length → EI (fAt l m) (evAt l i).t.toNat (epo l i) (fun u => Kn l u i m) (fun o => Kr l 4 o i m) (fun o => Kr l 8 o i m) := by
  intro m
  induction m with
  | zero => intro h; omega
  | succ m ih =>
    intro him hm1
    have hm : m < l.length := by omega
    by_cases e : i = m
    · subst e
      have hF := finv h i (by omega)
      have ho := (err0 ((ok_at h).1 i hm)).2.2.1
      rw [fAt_acc hacc]
      have hno : ∀ q, q < i + 1 → R l q i = true → False := fun q h1 h2 => by have := R_lt h2; omega
      refine ⟨Int.le_refl _, fun u hu => ?_, fun o => ?_, fun o => ?_⟩
      · refine ⟨fun h1 => ?_, fun ⟨q, h1, _, h2⟩ => (hno q h1 h2).elim⟩
        have := hF.lt u _ hu ho
        simp only [epo, vw] at h1
        omega
      · refine ⟨fun h1 => ?_, fun ⟨q, h1, _, _, h2⟩ => (hno q h1 h2).elim⟩
        have := (hF.lk o _ ho).1
        simp only [epo, vw] at h1
        omega
      · refine ⟨fun h1 => ?_, fun ⟨q, h1, _, _, h2⟩ => (hno q h1 h2).elim⟩
        have := (hF.lk o _ ho).2
        simp only [epo, vw] at h1
        omega
    · have hi : i < m := by omega
      have et := tn h hm
      have eo := on h hm
      have ei := tn h (show i < l.length by omega)
      have hev := ev_at h hm
      have hmp := manyOf_pos (k := (evAt l m).k) (by omega)
      refine (ih hi (by omega)).step (by omega) ?_ (R_kinds h hi hm hacc) ?_ ?_ ?_
      · intro k5
        have h1 := fork_ne h hm k5
        refine ⟨by omega, fun h2 => ?_⟩
        have := fork_lt h hm (show i < l.length by omega) k5 (by omega)
        omega
      · intro u
        rw [Kn_succ]
        have h1 : ((evAt l m).t = (u : Int)) ↔ (evAt l m).t.toNat = u := by omega
        have h2 : ((evAt l m).o = (u : Int)) ↔ (evAt l m).o.toNat = u := by omega
        rw [h1, h2]
      · intro o
        rw [Kr_succ]
        have h2 : ((evAt l m).o = (o : Int)) ↔ (evAt l m).o.toNat = o := by omega
        rw [h2]
        by_cases c : (evAt l m).k = 4 ∧ (evAt l m).o.toNat = o
        · rw [if_pos c]
          refine ⟨?_, fun h1 => .inr ⟨c.1, c.2, h1⟩⟩
          rintro (⟨q, h3, h4, h5, h6⟩ | h1)
          · exact R_trans (locks_ordered h h3 hm (isLk_iff.2 (.inr h4)) (isLk_iff.2 (.inr c.1)) (by omega)) h6
          · exact h1.2.2
        · rw [if_neg c]
          exact ⟨fun h1 => h1.elim id fun h1 => absurd ⟨h1.1, h1.2.1⟩ c, .inl⟩
      · intro o
        rw [Kr_succ]
        have h2 : ((evAt l m).o = (o : Int)) ↔ (evAt l m).o.toNat = o := by omega
        rw [h2]
/-- An access happens before a later one exactly if that one's thread has seen its epoch. -/
theorem epoch {i j : Nat} (hij : i < j) (hj : j < l.length) (hi : (evAt l i).k = 1 ∨ (evAt l i).k = 2) (hjk : (evAt l j).k = 1 ∨ (evAt l j).k = 2) :
    R l j i = true ↔ epo l i ≤ vw l j (evAt l i).t.toNat := by
  have hE := ei_at h hi j hij (by omega)
  rw [R_kinds h hij hj hi]
  by_cases e : (evAt l j).t.toNat = (evAt l i).t.toNat
  · have : epo l i ≤ vw l j (evAt l i).t.toNat := by unfold vw; rw [e]; exact hE.own
    exact ⟨fun _ => this, fun _ => .inl e⟩
  · have := hE.th _ e
    rw [show vw l j (evAt l i).t.toNat = (fAt l j).C (evAt l j).t.toNat (evAt l i).t.toNat from rfl, this]
    constructor
    · rintro (h1 | h1 | h1 | h1 | h1)
      · exact absurd h1 e
      · exact h1
      · omega
      · omega
      · omega
    · exact fun h1 => .inr (.inl h1)
theorem epo_mono {i j : Nat} (hij : i < j) (hj : j < l.length) (hi : (evAt l i).k = 1 ∨ (evAt l i).k = 2) (ht : (evAt l i).t = (evAt l j).t) : epo l i ≤ epo l j := by
  have hE := (ei_at h hi j hij (by omega)).own
  rw [ht] at hE
  exact hE
theorem epo_pos {i : Nat} (hi : i ≤ l.length) : 1 ≤ epo l i := (finv h i hi).pos _
theorem vw_nn {i : Nat} (hi : i ≤ l.length) (τ : Nat) : 0 ≤ vw l i τ := ((finv h i hi).nn _ τ).1
end
end Go.Proofs.Ytdhbgbneadcmiaa
