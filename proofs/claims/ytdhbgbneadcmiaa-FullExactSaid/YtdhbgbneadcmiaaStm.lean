/- Clocks of events: the keeper's state, plain. No program. -/
import Derived.Test.YtdhbgbneadcmiaaVal
namespace Go.Proofs.Ytdhbgbneadcmiaa

/-- Clocks of threads, locks and signals. -/
structure Kp where
  th : Nat → Nat → Int
  lk : Nat → Nat → Int
  vo : Nat → Nat → Int
def Kp.first : Kp := ⟨fun _ _ => 0, fun _ _ => 0, fun _ _ => 0⟩
def updC (F : Nat → Nat → Int) (k : Nat) (f : Nat → Int) : Nat → Nat → Int := fun i => if i = k then f else F i
/-- What a thread knows ahead of its tick. -/
def kPre (s : Kp) (e : Ev) : Nat → Int :=
  if e.k = 3 then cmax (s.th e.t.toNat) (s.lk e.o.toNat)
  else if e.k = 7 then cmax (s.th e.t.toNat) (s.vo e.o.toNat)
  else if e.k = 6 then cmax (s.th e.t.toNat) (s.th e.o.toNat)
  else s.th e.t.toNat
def tickC (f : Nat → Int) (t : Nat) : Nat → Int := fun i => if i = t then f i + 1 else f i
/-- The clock of an event. -/
def kMine (s : Kp) (e : Ev) : Nat → Int := tickC (kPre s e) e.t.toNat
def kNext (s : Kp) (e : Ev) : Kp :=
  if e.k = 4 then { s with th := updC s.th e.t.toNat (kMine s e), lk := updC s.lk e.o.toNat (cmax (s.lk e.o.toNat) (kMine s e)) }
  else if e.k = 8 then { s with th := updC s.th e.t.toNat (kMine s e), vo := updC s.vo e.o.toNat (cmax (s.vo e.o.toNat) (kMine s e)) }
  else if e.k = 5 then { s with th := updC (updC s.th e.t.toNat (kMine s e)) e.o.toNat (kMine s e) }
  else { s with th := updC s.th e.t.toNat (kMine s e) }
/-- The state behind i events; the clock of event i. -/
def kAt (l : List Ev) : Nat → Kp
  | 0 => Kp.first
  | i + 1 => kNext (kAt l i) (evAt l i)
def stampOf (l : List Ev) (i : Nat) : Nat → Int := kMine (kAt l i) (evAt l i)
end Go.Proofs.Ytdhbgbneadcmiaa
