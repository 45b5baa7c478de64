/- Programs of several threads, plain: what they do, step by step. An op is written as three numbers (kind, object, number), as an event is. No program. -/
import Derived.Test.YthfeakfakjecoaaPg
namespace Go.Proofs.Ythfeakfakjecoaa

def boundK (k : Int) : Int := if k = 1 ∨ k = 2 then 8 else if k = 3 then 1 else if k = 4 ∨ k = 5 then 5 else if k = 6 ∨ k = 7 then 6 else if k = 8 ∨ k = 9 then 4 else -1
def mostK (k : Int) : Int := if k = 3 then 1000 else 0
def badOp (e : Ev) : Bool := decide (e.t < 0) || decide (e.t ≥ boundK e.k) || decide (e.o < -mostK e.k) || decide (e.o > mostK e.k)
/-- What Check says. -/
def chkP (p : List (List Ev)) : Int :=
  if p.length < 1 ∨ 6 < p.length then 2 else if (p.any fun z => decide (12 < z.length)) = true then 2 else if (p.any fun z => z.any badOp) = true then 1 else 0
structure OkP (p : List (List Ev)) : Prop where
  pos : 1 ≤ p.length
  six : p.length ≤ 6
  len : ∀ z ∈ p, z.length ≤ 12
  op : ∀ z ∈ p, ∀ e ∈ z, badOp e = false
theorem chkP_ok {p : List (List Ev)} (h : chkP p = 0) : OkP p := by
  unfold chkP at h
  split at h
  · cases h
  · split at h
    · cases h
    · split at h
      · cases h
      · rename_i h1 h2 h3
        refine ⟨by omega, by omega, fun z hz => ?_, fun z hz e he => ?_⟩
        · by_cases c : z.length ≤ 12
          · exact c
          · exact absurd (List.any_eq_true.2 ⟨z, hz, decide_eq_true (by omega)⟩) h2
        · cases hb : badOp e
          · rfl
          · exact absurd (List.any_eq_true.2 ⟨z, hz, List.any_eq_true.2 ⟨e, he, hb⟩⟩) h3
structure PS where
  mem : Nat → Int
  vols : Nat → Int
  has : Nat → Int
  at_ : Nat → Nat
  begun : Nat → Bool
  owner : Nat → Int
def PS.first : PS := ⟨fun _ => 0, fun _ => 0, fun _ => 0, fun _ => 0, fun i => i == 0, fun _ => 0⟩
def upZ (f : Nat → Int) (k : Nat) (x : Int) : Nat → Int := fun i => if i = k then x else f i
def upN (f : Nat → Nat) (k : Nat) (x : Nat) : Nat → Nat := fun i => if i = k then x else f i
def upT (f : Nat → Bool) (k : Nat) : Nat → Bool := fun i => if i = k then true else f i
def plen (p : List (List Ev)) (t : Nat) : Nat := (p.getD t []).length
def opA (p : List (List Ev)) (t i : Nat) : Ev := (p.getD t []).getD i ⟨0, 0, 0⟩
/-- Has a thread that has begun an op left? -/
def nextB (p : List (List Ev)) (s : PS) (t : Int) : Bool := decide (0 ≤ t) && decide (t < p.length) && s.begun t.toNat && !(s.at_ t.toNat == plen p t.toNat)
def opN (p : List (List Ev)) (s : PS) (t : Nat) : Ev := opA p t (s.at_ t)
/-- Can it go on? -/
def canB (p : List (List Ev)) (s : PS) (t : Int) : Bool :=
  nextB p s t && (if (opN p s t.toNat).k = 4 then s.owner (opN p s t.toNat).t.toNat == 0
    else if (opN p s t.toNat).k = 7 then decide ((opN p s t.toNat).t < p.length) && !((opN p s t.toNat).t == t) && s.begun (opN p s t.toNat).t.toNat && (s.at_ (opN p s t.toNat).t.toNat == plen p (opN p s t.toNat).t.toNat)
    else true)
/-- What an op does to the world; the event that it tells. -/
def doOp (p : List (List Ev)) (s : PS) (t : Nat) (o : Ev) : PS × Option Ev :=
  if o.k = 1 then ({ s with has := upZ s.has t (s.mem o.t.toNat) }, some ⟨1, t, o.t⟩)
  else if o.k = 2 then ({ s with mem := upZ s.mem o.t.toNat (s.has t) }, some ⟨2, t, o.t⟩)
  else if o.k = 3 then ({ s with has := upZ s.has t (s.has t + o.o) }, none)
  else if o.k = 4 then ({ s with owner := upZ s.owner o.t.toNat (t + 1) }, some ⟨3, t, o.t⟩)
  else if o.k = 5 then (if s.owner o.t.toNat = t + 1 then ({ s with owner := upZ s.owner o.t.toNat 0 }, some ⟨4, t, o.t⟩) else (s, none))
  else if o.k = 6 then (if o.t < p.length ∧ s.begun o.t.toNat = false then ({ s with begun := upT s.begun o.t.toNat }, some ⟨5, t, o.t⟩) else (s, none))
  else if o.k = 7 then (s, some ⟨6, t, o.t⟩)
  else if o.k = 8 then ({ s with has := upZ s.has t (s.vols o.t.toNat) }, some ⟨7, t, o.t⟩)
  else if o.k = 9 then ({ s with vols := upZ s.vols o.t.toNat (s.has t) }, some ⟨8, t, o.t⟩)
  else (s, none)
def tick (s : PS) (t : Nat) : PS := { s with at_ := upN s.at_ t (s.at_ t + 1) }
def stepP (p : List (List Ev)) (s : PS) (t : Nat) : PS × Option Ev := doOp p (tick s t) t (opN p s t)
/-- One pick. -/
def pickP (p : List (List Ev)) (r : PS × List Ev) (t : Int) : PS × List Ev :=
  if canB p r.1 t then ((stepP p r.1 t.toNat).1, r.2 ++ (stepP p r.1 t.toNat).2.toList) else r
def runP (p : List (List Ev)) (picks : List Int) : PS × List Ev := picks.foldl (pickP p) (PS.first, [])
theorem runP_snoc (p : List (List Ev)) (picks : List Int) (t : Int) : runP p (picks ++ [t]) = pickP p (runP p picks) t := by simp [runP]
def doneB (p : List (List Ev)) (s : PS) : Bool := (List.range p.length).all fun t => !(nextB p s t)
def stuckB (p : List (List Ev)) (s : PS) : Bool := ((List.range p.length).all fun t => !(canB p s t)) && !(doneB p s)

/-! Cells. -/
def psF (s : PS) (done stuck : Bool) (i : Nat) : Value :=
  if i < 8 then .int .i64 (s.mem i) else if i < 12 then .int .i64 (s.vols (i - 8)) else if i < 18 then .int .i64 (s.has (i - 12)) else if i = 18 then .bool done else if i = 19 then .bool stuck
  else if i < 26 then .int .i64 (s.at_ (i - 20) : Nat) else if i < 32 then .bool (s.begun (i - 26)) else .int .i64 (s.owner (i - 32))
def psC (s : PS) : Array Value := ((List.range 37).map (psF s false false)).toArray
/-- What there is behind a run. -/
def endC (s : PS) (done stuck : Bool) : Array Value := ((List.range 20).map (psF s done stuck)).toArray
theorem psC_get (s : PS) {i : Nat} (h : i < 37) : (psC s)[i]? = some (psF s false false i) := by simp [psC, h]
theorem psC_set (s s' : PS) {i : Nat} (h : i < 37) {v : Value} (hv : v = psF s' false false i) (hs : ∀ j, j < 37 → j ≠ i → psF s false false j = psF s' false false j) : (psC s).setIfInBounds i v = psC s' := by
  apply Array.ext_getElem?
  intro j
  rw [Array.getElem?_setIfInBounds]
  by_cases e : i = j
  · subst e
    rw [if_pos rfl, if_pos (by simp [psC]; omega), psC_get s' h, hv]
  · rw [if_neg e]
    by_cases hj : j < 37
    · rw [psC_get s hj, psC_get s' hj, hs j hj (fun h => e h.symm)]
    · rw [Array.getElem?_eq_none (by simp [psC]; omega), Array.getElem?_eq_none (by simp [psC]; omega)]
end Go.Proofs.Ythfeakfakjecoaa
