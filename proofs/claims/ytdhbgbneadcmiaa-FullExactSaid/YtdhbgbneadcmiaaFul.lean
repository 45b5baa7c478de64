/- The detectors' clocks, plain; an epoch is known exactly to what comes behind it. No program. -/
import Derived.Test.YtdhbgbneadcmiaaLok
import Derived.Test.YtdhbgbneadcmiaaRac
namespace Go.Proofs.Ytdhbgbneadcmiaa

/-- Clocks of threads, locks and signals. -/
structure Fk where
  C : Nat → Nat → Int
  lk : Nat → Nat → Int
  vo : Nat → Nat → Int
def Fk.first : Fk := ⟨fun t τ => if t = τ then 1 else 0, fun _ _ => 0, fun _ _ => 0⟩
def upF (F : Nat → Nat → Int) (k : Nat) (f : Nat → Int) : Nat → Nat → Int := fun i => if i = k then f else F i
def tkF (f : Nat → Int) (t : Nat) : Nat → Int := fun i => if i = t then f i + 1 else f i
/-- An event that is no access. -/
def fSync (s : Fk) (e : Ev) : Fk :=
  if e.k = 3 then { s with C := upF s.C e.t.toNat (cmax (s.C e.t.toNat) (s.lk e.o.toNat)) }
  else if e.k = 4 then { s with lk := upF s.lk e.o.toNat (s.C e.t.toNat), C := upF s.C e.t.toNat (tkF (s.C e.t.toNat) e.t.toNat) }
  else if e.k = 5 then { s with C := upF (upF s.C e.o.toNat (cmax (s.C e.o.toNat) (s.C e.t.toNat))) e.t.toNat (tkF ((upF s.C e.o.toNat (cmax (s.C e.o.toNat) (s.C e.t.toNat))) e.t.toNat) e.t.toNat) }
  else if e.k = 6 then { s with C := upF s.C e.t.toNat (cmax (s.C e.t.toNat) (s.C e.o.toNat)) }
  else if e.k = 7 then { s with C := upF s.C e.t.toNat (cmax (s.C e.t.toNat) (s.vo e.o.toNat)) }
  else if e.k = 8 then { s with vo := upF s.vo e.o.toNat (cmax (s.vo e.o.toNat) (s.C e.t.toNat)), C := upF s.C e.t.toNat (tkF (s.C e.t.toNat) e.t.toNat) }
  else s
/-- Behind m events. -/
def fAt (l : List Ev) : Nat → Fk
  | 0 => Fk.first
  | m + 1 => fSync (fAt l m) (evAt l m)
/-- What an event's thread knows ahead of it. -/
def vw (l : List Ev) (i : Nat) : Nat → Int := (fAt l i).C (evAt l i).t.toNat
/-- The epoch of an event. -/
def epo (l : List Ev) (i : Nat) : Int := vw l i (evAt l i).t.toNat
section
variable {l : List Ev} (h : (played l).2.2 = 0)
include h
theorem tn {i : Nat} (hi : i < l.length) : ((evAt l i).t.toNat : Int) = (evAt l i).t := by
  have := ev_at h hi; omega
theorem on {i : Nat} (hi : i < l.length) : ((evAt l i).o.toNat : Int) = (evAt l i).o := by
  have := ev_at h hi; omega
theorem fork_ne {i : Nat} (hi : i < l.length) (hk : (evAt l i).k = 5) : (evAt l i).o ≠ (evAt l i).t := by
  intro e
  have := fork_lt h hi hi hk e.symm
  omega
end
/-- Who is not over is ahead of all in what is known of it; nobody knows more of a thread than it does; all is at least 0, and of one's own at least 1. -/
structure FOk (s : Fk) (ov : Nat → Bool) : Prop where
  pos : ∀ t, 1 ≤ s.C t t
  nn : ∀ u t, 0 ≤ s.C u t ∧ 0 ≤ s.lk u t ∧ 0 ≤ s.vo u t
  le : ∀ u t, s.C u t ≤ s.C t t ∧ s.lk u t ≤ s.C t t ∧ s.vo u t ≤ s.C t t
  lt : ∀ u t, u ≠ t → ov t = false → s.C u t < s.C t t
  lk : ∀ o t, ov t = false → s.lk o t < s.C t t ∧ s.vo o t < s.C t t
theorem FOk.init (ov : Nat → Bool) : FOk Fk.first ov := by
  refine ⟨fun t => by simp [Fk.first], fun u t => ⟨?_, Int.le_refl _, Int.le_refl _⟩, fun u t => ⟨?_, ?_, ?_⟩, fun u t hu _ => ?_, fun o t _ => ?_⟩
  · simp only [Fk.first]; split <;> omega
  · simp only [Fk.first]; split <;> simp
  · simp [Fk.first]
  · simp [Fk.first]
  · simp [Fk.first, hu]
  · simp [Fk.first]
set_option maxHeartbeats 8000000 in
theorem FOk.step {s : Fk} {e : Ev} {ov ov' : Nat → Bool} (hI : FOk s ov) (ha : ov e.t.toNat = false) (ho : ∀ t, ov' t = false → ov t = false ∧ (e.k = 6 → t ≠ e.o.toNat))
    (hn5 : e.k = 5 → e.o.toNat ≠ e.t.toNat) (hn6 : e.k = 6 → e.o.toNat ≠ e.t.toNat) : FOk (fSync s e) ov' := by
  obtain ⟨pos, nn, le, lt, lk⟩ := hI
  unfold fSync
  generalize e.t.toNat = a at *
  generalize e.o.toNat = b at *
  generalize e.k = k at *
  repeat' split
  all_goals
    refine ⟨fun t => ?_, fun u t => ?_, fun u t => ?_, fun u t hu hov => ?_, fun u t hov => ?_⟩
    all_goals
      have p1 := pos t
      have p2 := pos a
      have p3 := pos b
      have nt := nn t t
      have na := nn a t
      have nb := nn b t
      have la := le a t
      have lb := le b t
      have lab := le a b
      have lba := le b a
      have laa := lt b a
      try have nu := nn u t
      try have lu := le u t
      try have hov2 := ho t hov
      try have ltu := fun hne => lt u t hne hov2.1
      try have lta := fun hne => lt a t hne hov2.1
      try have ltb := fun hne => lt b t hne hov2.1
      try have lku := lk u t hov2.1
      try have lkb := lk b t hov2.1
      clear pos nn le lt lk ho
      try simp only [upF]
      (repeat' (first | split | simp only [cmax] | simp only [tkF])) <;> (try subst_vars) <;> (first | omega | (simp_all; try omega))
section
variable {l : List Ev} (h : (played l).2.2 = 0)
include h
theorem finv : ∀ m, m ≤ l.length → FOk (fAt l m) (stAt l m).over := by
  intro m
  induction m with
  | zero => exact fun _ => FOk.init _
  | succ m ih =>
    intro hm1
    have hm : m < l.length := by omega
    have er := err0 ((ok_at h).1 m hm)
    have et := tn h hm
    have eo := on h hm
    refine (ih (by omega)).step er.2.2.1 ?_ ?_ ?_
    · intro t ht
      rw [stAt, stFrom_succ _ _ _ hm] at ht
      constructor
      · cases hh : (stAt l m).over t
        · rfl
        · rw [nxt_over hh] at ht; cases ht
      · rintro k6 rfl
        simp [nxt, k6, updB] at ht
    · intro k
      have := fork_ne h hm k
      omega
    · intro k
      have := (er.2.2.2.2.2.2 k).2
      omega
end
end Go.Proofs.Ytdhbgbneadcmiaa
