/- Traces as plain lists: events, the world behind a trace, what is wrong with an event. No program. -/
import Derived.Test.YtmeidjhojanogaaDoorBase
namespace Go.Proofs.YtmeidjhojanogaaDoor

/-- An event. -/
structure Ev where
  k : Int
  t : Int
  o : Int
deriving DecidableEq

/-- How many there are of what a kind is of. -/
def manyOf (k : Int) : Int := if k = 1 ∨ k = 2 then 8 else if k = 3 ∨ k = 4 then 5 else if k = 5 ∨ k = 6 then 6 else if k = 7 ∨ k = 8 then 4 else 0
def isEv (e : Ev) : Bool := decide (0 ≤ e.t ∧ e.t < 6 ∧ 0 ≤ e.o ∧ e.o < manyOf e.k)

/-- Who has begun, who is over, who has which lock (a thread and one; 0: nobody). -/
structure St where
  begun : Nat → Bool
  over : Nat → Bool
  owner : Nat → Int
def St.first : St := ⟨fun i => i == 0, fun _ => false, fun _ => 0⟩
def updB (f : Nat → Bool) (k : Nat) : Nat → Bool := fun i => if i = k then true else f i
def updI (f : Nat → Int) (k : Nat) (x : Int) : Nat → Int := fun i => if i = k then x else f i

/-- What is wrong with an event (0: nothing). -/
def err (s : St) (e : Ev) : Int :=
  if isEv e = false then 1
  else if s.begun e.t.toNat = false ∨ s.over e.t.toNat = true then 11
  else if e.k = 3 then (if s.owner e.o.toNat = 0 then 0 else 9)
  else if e.k = 4 then (if s.owner e.o.toNat = e.t + 1 then 0 else 10)
  else if e.k = 5 then (if s.begun e.o.toNat = true then 8 else 0)
  else if e.k = 6 then (if s.begun e.o.toNat = false ∨ e.o = e.t then 7 else 0)
  else 0
/-- The world behind an event that is not wrong. -/
def nxt (s : St) (e : Ev) : St :=
  if e.k = 3 then { s with owner := updI s.owner e.o.toNat (e.t + 1) }
  else if e.k = 4 then { s with owner := updI s.owner e.o.toNat 0 }
  else if e.k = 5 then { s with begun := updB s.begun e.o.toNat }
  else if e.k = 6 then { s with over := updB s.over e.o.toNat }
  else s

/-- A list of events, from a world on: the world behind it, or behind what was right; where it was wrong; how. -/
def playL : St → Nat → List Ev → St × Nat × Int
  | s, _, [] => (s, 0, 0)
  | s, i, e :: l => if err s e = 0 then playL (nxt s e) (i + 1) l else (s, i, err s e)
def played (l : List Ev) : St × Nat × Int := if 80 < l.length then (St.first, 0, 2) else playL St.first 0 l

/-- An event's value; its cells. -/
abbrev evC (e : Ev) : Array Value := #[.int .i64 e.k, .int .i64 e.t, .int .i64 e.o]
abbrev evV (e : Ev) : Value := .agg (evC e)
/-- The cells of a world. -/
abbrev stC (s : St) : Array Value :=
  #[.bool (s.begun 0), .bool (s.begun 1), .bool (s.begun 2), .bool (s.begun 3), .bool (s.begun 4), .bool (s.begun 5),
    .bool (s.over 0), .bool (s.over 1), .bool (s.over 2), .bool (s.over 3), .bool (s.over 4), .bool (s.over 5),
    .int .i64 (s.owner 0), .int .i64 (s.owner 1), .int .i64 (s.owner 2), .int .i64 (s.owner 3), .int .i64 (s.owner 4)]
theorem idx5 {P : Nat → Prop} (h0 : P 0) (h1 : P 1) (h2 : P 2) (h3 : P 3) (h4 : P 4) : ∀ j, j < 5 → P j := by
  intro j hj; rcases (by omega : j = 0 ∨ j = 1 ∨ j = 2 ∨ j = 3 ∨ j = 4) with rfl | rfl | rfl | rfl | rfl <;> assumption
theorem stC_begun (s : St) (k : Nat) (hk : k < 6) : (stC s)[k]? = some (.bool (s.begun k)) := by revert k; apply idx6 <;> rfl
theorem stC_over (s : St) (k : Nat) (hk : k < 6) : (stC s)[6 + k]? = some (.bool (s.over k)) := by revert k; apply idx6 <;> rfl
theorem stC_owner (s : St) (k : Nat) (hk : k < 5) : (stC s)[12 + k]? = some (.int .i64 (s.owner k)) := by revert k; apply idx5 <;> rfl
theorem stC_setBegun (s : St) (k : Nat) (hk : k < 6) : (stC s).setIfInBounds k (.bool true) = stC { s with begun := updB s.begun k } := by
  revert k; apply idx6 <;> simp [stC, updB]
theorem stC_setOver (s : St) (k : Nat) (hk : k < 6) : (stC s).setIfInBounds (6 + k) (.bool true) = stC { s with over := updB s.over k } := by
  revert k; apply idx6 <;> simp [stC, updB]
theorem stC_setOwner (s : St) (k : Nat) (hk : k < 5) (x : Int) : (stC s).setIfInBounds (12 + k) (.int .i64 x) = stC { s with owner := updI s.owner k x } := by
  revert k; apply idx5 <;> simp [stC, updI]
theorem manyOf_le (k : Int) : manyOf k ≤ 8 := by unfold manyOf; (repeat split) <;> omega
theorem isEv_iff {e : Ev} : isEv e = true ↔ 0 ≤ e.t ∧ e.t < 6 ∧ 0 ≤ e.o ∧ e.o < manyOf e.k := by simp [isEv]
theorem manyOf_pos {k : Int} (h : 0 < manyOf k) : k = 1 ∨ k = 2 ∨ k = 3 ∨ k = 4 ∨ k = 5 ∨ k = 6 ∨ k = 7 ∨ k = 8 := by
  unfold manyOf at h; (repeat split at h) <;> omega

end Go.Proofs.YtmeidjhojanogaaDoor
