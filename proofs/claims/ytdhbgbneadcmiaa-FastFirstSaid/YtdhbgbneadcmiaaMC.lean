/- Joined texts. -/
import Derived.Test.YtdhbgbneadcmiaaMB

/- The detectors' clocks, plain; an epoch is known exactly to what comes behind it. No program. -/
namespace Go.Proofs.Ytdhbgbneadcmiaa

/-- Clocks of threads, locks and signals. -/
structure Fk where
  C : Nat → Nat → Int
  lk : Nat → Nat → Int
  vo : Nat → Nat → Int
def Fk.first : Fk := ⟨fun t τ => if t = τ then 1 else 0, fun _ _ => 0, fun _ _ => 0⟩
def upF (F : Nat → Nat → Int) (k : Nat) (f : Nat → Int) : Nat → Nat → Int := fun i => if i = k then f else F i
def tkF (f : Nat → Int) (t : Nat) : Nat → Int := fun i => if i = t then f i + 1 else f i
/-- An event that is no access. -/
def fSync (s : Fk) (e : Ev) : Fk :=
  if e.k = 3 then { s with C := upF s.C e.t.toNat (cmax (s.C e.t.toNat) (s.lk e.o.toNat)) }
  else if e.k = 4 then { s with lk := upF s.lk e.o.toNat (s.C e.t.toNat), C := upF s.C e.t.toNat (tkF (s.C e.t.toNat) e.t.toNat) }
  else if e.k = 5 then { s with C := upF (upF s.C e.o.toNat (cmax (s.C e.o.toNat) (s.C e.t.toNat))) e.t.toNat (tkF ((upF s.C e.o.toNat (cmax (s.C e.o.toNat) (s.C e.t.toNat))) e.t.toNat) e.t.toNat) }
  else if e.k = 6 then { s with C := upF s.C e.t.toNat (cmax (s.C e.t.toNat) (s.C e.o.toNat)) }
  else if e.k = 7 then { s with C := upF s.C e.t.toNat (cmax (s.C e.t.toNat) (s.vo e.o.toNat)) }
  else if e.k = 8 then { s with vo := upF s.vo e.o.toNat (cmax (s.vo e.o.toNat) (s.C e.t.toNat)), C := upF s.C e.t.toNat (tkF (s.C e.t.toNat) e.t.toNat) }
  else s
/-- Behind m events. -/
def fAt (l : List Ev) : Nat → Fk
  | 0 => Fk.first
  | m + 1 => fSync (fAt l m) (evAt l m)
/-- What an event's thread knows ahead of it. -/
def vw (l : List Ev) (i : Nat) : Nat → Int := (fAt l i).C (evAt l i).t.toNat
/-- The epoch of an event. -/
def epo (l : List Ev) (i : Nat) : Int := vw l i (evAt l i).t.toNat
section
variable {l : List Ev} (h : (played l).2.2 = 0)
include h
theorem tn {i : Nat} (hi : i < l.length) : ((evAt l i).t.toNat : Int) = (evAt l i).t := by
  have := ev_at h hi; omega
theorem on {i : Nat} (hi : i < l.length) : ((evAt l i).o.toNat : Int) = (evAt l i).o := by
  have := ev_at h hi; omega
theorem fork_ne {i : Nat} (hi : i < l.length) (hk : (evAt l i).k = 5) : (evAt l i).o ≠ (evAt l i).t := by
  intro e
  have := fork_lt h hi hi hk e.symm
  omega
end
/-- Who is not over is ahead of all in what is known of it; nobody knows more of a thread than it does; all is at least 0, and of one's own at least 1. -/
structure FOk (s : Fk) (ov : Nat → Bool) : Prop where
  pos : ∀ t, 1 ≤ s.C t t
  nn : ∀ u t, 0 ≤ s.C u t ∧ 0 ≤ s.lk u t ∧ 0 ≤ s.vo u t
  le : ∀ u t, s.C u t ≤ s.C t t ∧ s.lk u t ≤ s.C t t ∧ s.vo u t ≤ s.C t t
  lt : ∀ u t, u ≠ t → ov t = false → s.C u t < s.C t t
  lk : ∀ o t, ov t = false → s.lk o t < s.C t t ∧ s.vo o t < s.C t t
theorem FOk.init (ov : Nat → Bool) : FOk Fk.first ov := by
  refine ⟨fun t => by simp [Fk.first], fun u t => ⟨?_, Int.le_refl _, Int.le_refl _⟩, fun u t => ⟨?_, ?_, ?_⟩, fun u t hu _ => ?_, fun o t _ => ?_⟩
  · simp only [Fk.first]; split <;> omega
  · simp only [Fk.first]; split <;> simp
  · simp [Fk.first]
  · simp [Fk.first]
  · simp [Fk.first, hu]
  · simp [Fk.first]
set_option maxHeartbeats 8000000 in
theorem FOk.step {s : Fk} {e : Ev} {ov ov' : Nat → Bool} (hI : FOk s ov) (ha : ov e.t.toNat = false) (ho : ∀ t, ov' t = false → ov t = false ∧ (e.k = 6 → t ≠ e.o.toNat))
    (hn5 : e.k = 5 → e.o.toNat ≠ e.t.toNat) (hn6 : e.k = 6 → e.o.toNat ≠ e.t.toNat) : FOk (fSync s e) ov' := by
  obtain ⟨pos, nn, le, lt, lk⟩ := hI
  unfold fSync
  generalize e.t.toNat = a at *
  generalize e.o.toNat = b at *
  generalize e.k = k at *
  repeat' split
  all_goals
    refine ⟨fun t => ?_, fun u t => ?_, fun u t => ?_, fun u t hu hov => ?_, fun u t hov => ?_⟩
    all_goals
      have p1 := pos t
      have p2 := pos a
      have p3 := pos b
      have nt := nn t t
      have na := nn a t
      have nb := nn b t
      have la := le a t
      have lb := le b t
      have lab := le a b
      have lba := le b a
      have laa := lt b a
      try have nu := nn u t
      try have lu := le u t
      try have hov2 := ho t hov
      try have ltu := fun hne => lt u t hne hov2.1
      try have lta := fun hne => lt a t hne hov2.1
      try have ltb := fun hne => lt b t hne hov2.1
      try have lku := lk u t hov2.1
      try have lkb := lk b t hov2.1
      clear pos nn le lt lk ho
      try simp only [upF]
      (repeat' (first | split | simp only [cmax] | simp only [tkF])) <;> (try subst_vars) <;> (first | omega | (simp_all; try omega))
section
variable {l : List Ev} (h : (played l).2.2 = 0)
include h
theorem finv : ∀ m, m ≤ l.length → FOk (fAt l m) (stAt l m).over := by
  intro m
  induction m with
  | zero => exact fun _ => FOk.init _
  | succ m ih =>
    intro hm1
    have hm : m < l.length := by omega
    have er := err0 ((ok_at h).1 m hm)
    have et := tn h hm
    have eo := on h hm
    refine (ih (by omega)).step er.2.2.1 ?_ ?_ ?_
    · intro t ht
      rw [stAt, stFrom_succ _ _ _ hm] at ht
      constructor
      · cases hh : (stAt l m).over t
        · rfl
        · rw [nxt_over hh] at ht; cases ht
      · rintro k6 rfl
        simp [nxt, k6, updB] at ht
    · intro k
      have := fork_ne h hm k
      omega
    · intro k
      have := (er.2.2.2.2.2.2 k).2
      omega
end
end Go.Proofs.Ytdhbgbneadcmiaa

/- An access is known by its epoch: it happens before a later access exactly if that one's thread has seen its epoch. No program. -/
namespace Go.Proofs.Ytdhbgbneadcmiaa

/-- Thread u knows of event i, ahead of place m. -/
def Kn (l : List Ev) (u i m : Nat) : Prop := ∃ q, q < m ∧ ((evAt l q).t = u ∨ ((evAt l q).k = 5 ∧ (evAt l q).o = u)) ∧ R l q i = true
/-- A Release, a Show of o, ahead of place m, knows of event i. -/
def Kr (l : List Ev) (k : Int) (o i m : Nat) : Prop := ∃ q, q < m ∧ (evAt l q).k = k ∧ (evAt l q).o = o ∧ R l q i = true
theorem Kn_succ {l : List Ev} {u i m : Nat} : Kn l u i (m + 1) ↔ Kn l u i m ∨ (((evAt l m).t = u ∨ ((evAt l m).k = 5 ∧ (evAt l m).o = u)) ∧ R l m i = true) := by
  constructor
  · rintro ⟨q, h1, h2, h3⟩
    by_cases e : q = m
    · subst e; exact .inr ⟨h2, h3⟩
    · exact .inl ⟨q, by omega, h2, h3⟩
  · rintro (⟨q, h1, h2, h3⟩ | ⟨h2, h3⟩)
    · exact ⟨q, by omega, h2, h3⟩
    · exact ⟨m, by omega, h2, h3⟩
theorem Kr_succ {l : List Ev} {k : Int} {o i m : Nat} : Kr l k o i (m + 1) ↔ Kr l k o i m ∨ ((evAt l m).k = k ∧ (evAt l m).o = o ∧ R l m i = true) := by
  constructor
  · rintro ⟨q, h1, h2, h3, h4⟩
    by_cases e : q = m
    · subst e; exact .inr ⟨h2, h3, h4⟩
    · exact .inl ⟨q, by omega, h2, h3, h4⟩
  · rintro (⟨q, h1, h2, h3, h4⟩ | ⟨h2, h3, h4⟩)
    · exact ⟨q, by omega, h2, h3, h4⟩
    · exact ⟨m, by omega, h2, h3, h4⟩
section
variable {l : List Ev} (h : (played l).2.2 = 0)
include h
/-- What is directly ahead of event m, by its kind. -/
theorem R_kinds {i m : Nat} (hi : i < m) (hm : m < l.length) (hacc : (evAt l i).k = 1 ∨ (evAt l i).k = 2) :
    R l m i = true ↔ (evAt l m).t.toNat = (evAt l i).t.toNat ∨ Kn l (evAt l m).t.toNat i m ∨ ((evAt l m).k = 3 ∧ Kr l 4 (evAt l m).o.toNat i m) ∨ ((evAt l m).k = 7 ∧ Kr l 8 (evAt l m).o.toNat i m) ∨
      ((evAt l m).k = 6 ∧ ((evAt l m).o.toNat = (evAt l i).t.toNat ∨ Kn l (evAt l m).o.toNat i m)) := by
  have et := tn h hm
  have eo := on h hm
  have ei := tn h (show i < l.length by omega)
  rw [spec_all l m i]
  constructor
  · rintro ⟨x, h1, h2, h3⟩
    rw [dirE_iff] at h2
    rcases h3 with rfl | h3
    · rcases h2 with h2 | ⟨h2, h4⟩ | h2 | h2
      · exact .inl (by omega)
      · omega
      · omega
      · exact .inr (.inr (.inr (.inr ⟨h2.1, .inl (by omega)⟩)))
    · rcases h2 with h2 | ⟨h2 | h2 | h2, h4⟩ | h2 | h2
      · exact .inr (.inl ⟨x, h1, .inl (by omega), h3⟩)
      · exact .inr (.inr (.inl ⟨h2.2, x, h1, h2.1, by omega, h3⟩))
      · exact .inr (.inr (.inr (.inl ⟨h2.2, x, h1, h2.1, by omega, h3⟩)))
      · exact .inr (.inr (.inr (.inr ⟨h2.2, .inr ⟨x, h1, .inr ⟨h2.1, by omega⟩, h3⟩⟩)))
      · exact .inr (.inl ⟨x, h1, .inr ⟨h2.1, by omega⟩, h3⟩)
      · exact .inr (.inr (.inr (.inr ⟨h2.1, .inr ⟨x, h1, .inl (by omega), h3⟩⟩)))
  · rintro (h1 | ⟨x, h1, h2, h3⟩ | ⟨h1, x, h2, h3, h4, h5⟩ | ⟨h1, x, h2, h3, h4, h5⟩ | ⟨h1, h2 | ⟨x, h2, h3, h4⟩⟩)
    · exact ⟨i, hi, dirE_iff.2 (.inl (by omega)), .inl rfl⟩
    · refine ⟨x, h1, dirE_iff.2 ?_, .inr h3⟩
      rcases h2 with h2 | h2
      · exact .inl (by omega)
      · exact .inr (.inr (.inl ⟨h2.1, by omega⟩))
    · exact ⟨x, h2, dirE_iff.2 (.inr (.inl ⟨.inl ⟨h3, h1⟩, by omega⟩)), .inr h5⟩
    · exact ⟨x, h2, dirE_iff.2 (.inr (.inl ⟨.inr (.inl ⟨h3, h1⟩), by omega⟩)), .inr h5⟩
    · exact ⟨i, hi, dirE_iff.2 (.inr (.inr (.inr ⟨h1, by omega⟩))), .inl rfl⟩
    · refine ⟨x, h2, dirE_iff.2 ?_, .inr h4⟩
      rcases h3 with h3 | h3
      · exact .inr (.inr (.inr ⟨h1, by omega⟩))
      · exact .inr (.inl ⟨.inr (.inr ⟨h3.1, h1⟩), by omega⟩)
/-- What is known of event i, of thread t and epoch n, in a state of clocks. -/
structure EI (s : Fk) (t : Nat) (n : Int) (K : Nat → Prop) (L V : Nat → Prop) : Prop where
  own : n ≤ s.C t t
  th : ∀ u, u ≠ t → (n ≤ s.C u t ↔ K u)
  lk : ∀ o, (n ≤ s.lk o t ↔ L o)
  vo : ∀ o, (n ≤ s.vo o t ↔ V o)
end
set_option maxHeartbeats 8000000 in
theorem EI.step {s : Fk} {e : Ev} {t : Nat} {n : Int} {K K' L L' V V' : Nat → Prop} {Rm : Prop} (hI : EI s t n K L V) (hk : 1 ≤ e.k ∧ e.k ≤ 8)
    (h5 : e.k = 5 → e.o.toNat ≠ e.t.toNat ∧ e.o.toNat ≠ t)
    (hR : Rm ↔ e.t.toNat = t ∨ K e.t.toNat ∨ (e.k = 3 ∧ L e.o.toNat) ∨ (e.k = 7 ∧ V e.o.toNat) ∨ (e.k = 6 ∧ (e.o.toNat = t ∨ K e.o.toNat)))
    (hK : ∀ u, K' u ↔ K u ∨ ((e.t.toNat = u ∨ (e.k = 5 ∧ e.o.toNat = u)) ∧ Rm)) (hL : ∀ o, L' o ↔ if e.k = 4 ∧ e.o.toNat = o then Rm else L o) (hV : ∀ o, V' o ↔ V o ∨ (e.k = 8 ∧ e.o.toNat = o ∧ Rm)) :
    EI (fSync s e) t n K' L' V' := by
  obtain ⟨own, th, lk, vo⟩ := hI
  unfold fSync
  generalize e.t.toNat = a at *
  generalize e.o.toNat = b at *
  generalize e.k = k at *
  have tha := th a
  have thb := th b
  have lkb := lk b
  have vob := vo b
  repeat' split
  all_goals
    refine ⟨?_, fun u hu => ?_, fun o => ?_, fun o => ?_⟩
    · try simp only [upF]
      clear th lk vo hR hK hL hV tha thb lkb vob
      (repeat' (first | split | simp only [cmax] | simp only [tkF])) <;> (try subst_vars) <;> (first | omega | (simp_all; try omega))
    · have thu := th u hu
      have hKu := hK u
      clear th lk vo hK hL hV
      try simp only [upF]
      (repeat' (first | split | simp only [cmax] | simp only [tkF])) <;> grind
    · have lko := lk o
      have hLo := hL o
      clear th lk vo hK hL hV
      try simp only [upF]
      (repeat' (first | split | simp only [cmax] | simp only [tkF])) <;> grind
    · have voo := vo o
      have hVo := hV o
      clear th lk vo hK hL hV
      try simp only [upF]
      (repeat' (first | split | simp only [cmax] | simp only [tkF])) <;> grind
section
variable {l : List Ev} (h : (played l).2.2 = 0)
include h
omit h in
theorem fAt_acc {i : Nat} (hacc : (evAt l i).k = 1 ∨ (evAt l i).k = 2) : fAt l (i + 1) = fAt l i := by
  show fSync (fAt l i) (evAt l i) = fAt l i
  unfold fSync
  rcases hacc with e | e <;> simp [e]
theorem ei_at {i : Nat} (hacc : (evAt l i).k = 1 ∨ (evAt l i).k = 2) : ∀ m, i < m → m ≤ l.length → EI (fAt l m) (evAt l i).t.toNat (epo l i) (fun u => Kn l u i m) (fun o => Kr l 4 o i m) (fun o => Kr l 8 o i m) := by
  intro m
  induction m with
  | zero => intro h; omega
  | succ m ih =>
    intro him hm1
    have hm : m < l.length := by omega
    by_cases e : i = m
    · subst e
      have hF := finv h i (by omega)
      have ho := (err0 ((ok_at h).1 i hm)).2.2.1
      rw [fAt_acc hacc]
      have hno : ∀ q, q < i + 1 → R l q i = true → False := fun q h1 h2 => by have := R_lt h2; omega
      refine ⟨Int.le_refl _, fun u hu => ?_, fun o => ?_, fun o => ?_⟩
      · refine ⟨fun h1 => ?_, fun ⟨q, h1, _, h2⟩ => (hno q h1 h2).elim⟩
        have := hF.lt u _ hu ho
        simp only [epo, vw] at h1
        omega
      · refine ⟨fun h1 => ?_, fun ⟨q, h1, _, _, h2⟩ => (hno q h1 h2).elim⟩
        have := (hF.lk o _ ho).1
        simp only [epo, vw] at h1
        omega
      · refine ⟨fun h1 => ?_, fun ⟨q, h1, _, _, h2⟩ => (hno q h1 h2).elim⟩
        have := (hF.lk o _ ho).2
        simp only [epo, vw] at h1
        omega
    · have hi : i < m := by omega
      have et := tn h hm
      have eo := on h hm
      have ei := tn h (show i < l.length by omega)
      have hev := ev_at h hm
      have hmp := manyOf_pos (k := (evAt l m).k) (by omega)
      refine (ih hi (by omega)).step (by omega) ?_ (R_kinds h hi hm hacc) ?_ ?_ ?_
      · intro k5
        have h1 := fork_ne h hm k5
        refine ⟨by omega, fun h2 => ?_⟩
        have := fork_lt h hm (show i < l.length by omega) k5 (by omega)
        omega
      · intro u
        rw [Kn_succ]
        have h1 : ((evAt l m).t = (u : Int)) ↔ (evAt l m).t.toNat = u := by omega
        have h2 : ((evAt l m).o = (u : Int)) ↔ (evAt l m).o.toNat = u := by omega
        rw [h1, h2]
      · intro o
        rw [Kr_succ]
        have h2 : ((evAt l m).o = (o : Int)) ↔ (evAt l m).o.toNat = o := by omega
        rw [h2]
        by_cases c : (evAt l m).k = 4 ∧ (evAt l m).o.toNat = o
        · rw [if_pos c]
          refine ⟨?_, fun h1 => .inr ⟨c.1, c.2, h1⟩⟩
          rintro (⟨q, h3, h4, h5, h6⟩ | h1)
          · exact R_trans (locks_ordered h h3 hm (isLk_iff.2 (.inr h4)) (isLk_iff.2 (.inr c.1)) (by omega)) h6
          · exact h1.2.2
        · rw [if_neg c]
          exact ⟨fun h1 => h1.elim id fun h1 => absurd ⟨h1.1, h1.2.1⟩ c, .inl⟩
      · intro o
        rw [Kr_succ]
        have h2 : ((evAt l m).o = (o : Int)) ↔ (evAt l m).o.toNat = o := by omega
        rw [h2]
/-- An access happens before a later one exactly if that one's thread has seen its epoch. -/
theorem epoch {i j : Nat} (hij : i < j) (hj : j < l.length) (hi : (evAt l i).k = 1 ∨ (evAt l i).k = 2) (hjk : (evAt l j).k = 1 ∨ (evAt l j).k = 2) :
    R l j i = true ↔ epo l i ≤ vw l j (evAt l i).t.toNat := by
  have hE := ei_at h hi j hij (by omega)
  rw [R_kinds h hij hj hi]
  by_cases e : (evAt l j).t.toNat = (evAt l i).t.toNat
  · have : epo l i ≤ vw l j (evAt l i).t.toNat := by unfold vw; rw [e]; exact hE.own
    exact ⟨fun _ => this, fun _ => .inl e⟩
  · have := hE.th _ e
    rw [show vw l j (evAt l i).t.toNat = (fAt l j).C (evAt l j).t.toNat (evAt l i).t.toNat from rfl, this]
    constructor
    · rintro (h1 | h1 | h1 | h1 | h1)
      · exact absurd h1 e
      · exact h1
      · omega
      · omega
      · omega
    · exact fun h1 => .inr (.inl h1)
theorem epo_mono {i j : Nat} (hij : i < j) (hj : j < l.length) (hi : (evAt l i).k = 1 ∨ (evAt l i).k = 2) (ht : (evAt l i).t = (evAt l j).t) : epo l i ≤ epo l j := by
  have hE := (ei_at h hi j hij (by omega)).own
  rw [ht] at hE
  exact hE
theorem epo_pos {i : Nat} (hi : i ≤ l.length) : 1 ≤ epo l i := (finv h i hi).pos _
theorem vw_nn {i : Nat} (hi : i ≤ l.length) (τ : Nat) : 0 ≤ vw l i τ := ((finv h i hi).nn _ τ).1
end
end Go.Proofs.Ytdhbgbneadcmiaa

/- The detector by full clocks, plain: what it keeps of a variable, its flags. No program. -/
namespace Go.Proofs.Ytdhbgbneadcmiaa

/-- The clocks of a variable behind m events: reads, writes. -/
def rdAt (l : List Ev) : Nat → Nat → Nat → Int
  | 0 => fun _ _ => 0
  | m + 1 => fun x τ => if (evAt l m).k = 1 ∧ (evAt l m).o = x ∧ (evAt l m).t = τ then vw l m τ else rdAt l m x τ
def wrAt (l : List Ev) : Nat → Nat → Nat → Int
  | 0 => fun _ _ => 0
  | m + 1 => fun x τ => if (evAt l m).k = 2 ∧ (evAt l m).o = x ∧ (evAt l m).t = τ then vw l m τ else wrAt l m x τ
/-- What event m is flagged as. -/
def fKind (l : List Ev) (m : Nat) : Int :=
  if (evAt l m).k = 1 then (if cle (wrAt l m (evAt l m).o.toNat) (vw l m) then 0 else 2)
  else if (evAt l m).k = 2 then (if cle (wrAt l m (evAt l m).o.toNat) (vw l m) then (if cle (rdAt l m (evAt l m).o.toNat) (vw l m) then 0 else 3) else 1)
  else 0
/-- The flags of the first m events (a flag is written as three numbers, as an event is: its place, its variable, its kind). -/
def fFlags (l : List Ev) : Nat → List Ev
  | 0 => []
  | m + 1 => if fKind l m = 0 then fFlags l m else fFlags l m ++ [⟨m, (evAt l m).o, fKind l m⟩]
theorem fFlags_len (l : List Ev) : ∀ m, (fFlags l m).length ≤ m
  | 0 => Nat.le_refl _
  | m + 1 => by
    simp only [fFlags]
    have := fFlags_len l m
    split
    · omega
    · simp; omega
theorem fFlags_lt (l : List Ev) : ∀ m, ∀ f ∈ fFlags l m, 0 ≤ f.k ∧ f.k < m
  | 0 => by simp [fFlags]
  | m + 1 => by
    intro f hf
    simp only [fFlags] at hf
    split at hf
    · have := fFlags_lt l m f hf; omega
    · rcases List.mem_append.1 hf with h1 | h1
      · have := fFlags_lt l m f h1; omega
      · simp at h1; subst h1; simp only; omega
/-- The flags behind n are at places from n on. -/
theorem fFlags_split (l : List Ev) (n : Nat) : ∀ m, n ≤ m → ∃ r, fFlags l m = fFlags l n ++ r ∧ ∀ f ∈ r, (n : Int) ≤ f.k := by
  intro m
  induction m with
  | zero => intro h; obtain rfl : n = 0 := by omega
            exact ⟨[], by simp, by simp⟩
  | succ m ih =>
    intro h
    by_cases e : n = m + 1
    · subst e; exact ⟨[], by simp, by simp⟩
    · obtain ⟨r, h1, h2⟩ := ih (by omega)
      simp only [fFlags]
      split
      · exact ⟨r, h1, h2⟩
      · refine ⟨r ++ [⟨m, (evAt l m).o, fKind l m⟩], by rw [h1, List.append_assoc], fun f hf => ?_⟩
        rcases List.mem_append.1 hf with h3 | h3
        · exact h2 f h3
        · simp at h3; subst h3; simp only; omega
theorem fAt_take (l : List Ev) (n : Nat) : ∀ m, m ≤ n → fAt (l.take n) m = fAt l m := by
  intro m
  induction m with
  | zero => intro _; rfl
  | succ m ih => intro h; simp only [fAt]; rw [ih (by omega), evAt_take l n m (by omega)]
theorem vw_take (l : List Ev) (n m : Nat) (h : m < n) : vw (l.take n) m = vw l m := by
  unfold vw; rw [fAt_take l n m (by omega), evAt_take l n m h]
theorem rdAt_take (l : List Ev) (n : Nat) : ∀ m, m ≤ n → rdAt (l.take n) m = rdAt l m := by
  intro m
  induction m with
  | zero => intro _; rfl
  | succ m ih => intro h; simp only [rdAt]; rw [ih (by omega), evAt_take l n m (by omega), vw_take l n m (by omega)]
theorem wrAt_take (l : List Ev) (n : Nat) : ∀ m, m ≤ n → wrAt (l.take n) m = wrAt l m := by
  intro m
  induction m with
  | zero => intro _; rfl
  | succ m ih => intro h; simp only [wrAt]; rw [ih (by omega), evAt_take l n m (by omega), vw_take l n m (by omega)]
theorem fKind_take (l : List Ev) (n m : Nat) (h : m < n) : fKind (l.take n) m = fKind l m := by
  unfold fKind; rw [evAt_take l n m h, vw_take l n m h, rdAt_take l n m (by omega), wrAt_take l n m (by omega)]
theorem fFlags_take (l : List Ev) (n : Nat) : ∀ m, m ≤ n → fFlags (l.take n) m = fFlags l m := by
  intro m
  induction m with
  | zero => intro _; rfl
  | succ m ih => intro h; simp only [fFlags]; rw [ih (by omega), fKind_take l n m (by omega), evAt_take l n m (by omega)]
section
variable {l : List Ev} (h : (played l).2.2 = 0)
include h
/-- Who has read (written) a variable has a number there, and who has not has none. -/
theorem rdAt_pos (x t : Nat) : ∀ m, m ≤ l.length → 0 ≤ rdAt l m x t ∧ (0 < rdAt l m x t ↔ ∃ i, i < m ∧ (evAt l i).k = 1 ∧ (evAt l i).o = x ∧ (evAt l i).t = t) := by
  intro m
  induction m with
  | zero => intro _; exact ⟨Int.le_refl _, fun h => by simp [rdAt] at h, fun ⟨i, hi, _⟩ => by omega⟩
  | succ m ih =>
    intro hm
    obtain ⟨h1, h2⟩ := ih (by omega)
    simp only [rdAt]
    split
    · rename_i c
      have := epo_pos h (i := m) (by omega)
      unfold epo at this
      rw [show (evAt l m).t.toNat = t by omega] at this
      exact ⟨by omega, fun _ => ⟨m, by omega, c⟩, fun _ => by omega⟩
    · rename_i c
      refine ⟨h1, fun h3 => ?_, fun ⟨i, hi, h3⟩ => ?_⟩
      · obtain ⟨i, hi, h4⟩ := h2.1 h3
        exact ⟨i, by omega, h4⟩
      · by_cases e : i = m
        · subst e; exact absurd h3 c
        · exact h2.2 ⟨i, by omega, h3⟩
theorem wrAt_pos (x t : Nat) : ∀ m, m ≤ l.length → 0 ≤ wrAt l m x t ∧ (0 < wrAt l m x t ↔ ∃ i, i < m ∧ (evAt l i).k = 2 ∧ (evAt l i).o = x ∧ (evAt l i).t = t) := by
  intro m
  induction m with
  | zero => intro _; exact ⟨Int.le_refl _, fun h => by simp [wrAt] at h, fun ⟨i, hi, _⟩ => by omega⟩
  | succ m ih =>
    intro hm
    obtain ⟨h1, h2⟩ := ih (by omega)
    simp only [wrAt]
    split
    · rename_i c
      have := epo_pos h (i := m) (by omega)
      unfold epo at this
      rw [show (evAt l m).t.toNat = t by omega] at this
      exact ⟨by omega, fun _ => ⟨m, by omega, c⟩, fun _ => by omega⟩
    · rename_i c
      refine ⟨h1, fun h3 => ?_, fun ⟨i, hi, h3⟩ => ?_⟩
      · obtain ⟨i, hi, h4⟩ := h2.1 h3
        exact ⟨i, by omega, h4⟩
      · by_cases e : i = m
        · subst e; exact absurd h3 c
        · exact h2.2 ⟨i, by omega, h3⟩
end
end Go.Proofs.Ytdhbgbneadcmiaa
