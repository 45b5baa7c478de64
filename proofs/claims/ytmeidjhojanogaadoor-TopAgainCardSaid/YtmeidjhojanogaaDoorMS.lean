/- Joined texts. -/
import Derived.Test.YtmeidjhojanogaaDoorBase
import Derived.Test.YtmeidjhojanogaaDoorChecked

/- Traces as plain lists: events, the world behind a trace, what is wrong with an event. No program. -/
namespace Go.Proofs.YtmeidjhojanogaaDoor

/-- An event. -/
structure Ev where
  k : Int
  t : Int
  o : Int
deriving DecidableEq

/-- How many there are of what a kind is of. -/
def manyOf (k : Int) : Int := if k = 1 ∨ k = 2 then 8 else if k = 3 ∨ k = 4 then 5 else if k = 5 ∨ k = 6 then 6 else if k = 7 ∨ k = 8 then 4 else 0
def isEv (e : Ev) : Bool := decide (0 ≤ e.t ∧ e.t < 6 ∧ 0 ≤ e.o ∧ e.o < manyOf e.k)

/-- Who has begun, who is over, who has which lock (a thread and one; 0: nobody). -/
structure St where
  begun : Nat → Bool
  over : Nat → Bool
  owner : Nat → Int
def St.first : St := ⟨fun i => i == 0, fun _ => false, fun _ => 0⟩
def updB (f : Nat → Bool) (k : Nat) : Nat → Bool := fun i => if i = k then true else f i
def updI (f : Nat → Int) (k : Nat) (x : Int) : Nat → Int := fun i => if i = k then x else f i

/-- What is wrong with an event (0: nothing). -/
def err (s : St) (e : Ev) : Int :=
  if isEv e = false then 1
  else if s.begun e.t.toNat = false ∨ s.over e.t.toNat = true then 11
  else if e.k = 3 then (if s.owner e.o.toNat = 0 then 0 else 9)
  else if e.k = 4 then (if s.owner e.o.toNat = e.t + 1 then 0 else 10)
  else if e.k = 5 then (if s.begun e.o.toNat = true then 8 else 0)
  else if e.k = 6 then (if s.begun e.o.toNat = false ∨ e.o = e.t then 7 else 0)
  else 0
/-- The world behind an event that is not wrong. -/
def nxt (s : St) (e : Ev) : St :=
  if e.k = 3 then { s with owner := updI s.owner e.o.toNat (e.t + 1) }
  else if e.k = 4 then { s with owner := updI s.owner e.o.toNat 0 }
  else if e.k = 5 then { s with begun := updB s.begun e.o.toNat }
  else if e.k = 6 then { s with over := updB s.over e.o.toNat }
  else s

/-- A list of events, from a world on: the world behind it, or behind what was right; where it was wrong; how. -/
def playL : St → Nat → List Ev → St × Nat × Int
  | s, _, [] => (s, 0, 0)
  | s, i, e :: l => if err s e = 0 then playL (nxt s e) (i + 1) l else (s, i, err s e)
def played (l : List Ev) : St × Nat × Int := if 80 < l.length then (St.first, 0, 2) else playL St.first 0 l

/-- An event's value; its cells. -/
abbrev evC (e : Ev) : Array Value := #[.int .i64 e.k, .int .i64 e.t, .int .i64 e.o]
abbrev evV (e : Ev) : Value := .agg (evC e)
/-- The cells of a world. -/
abbrev stC (s : St) : Array Value :=
  #[.bool (s.begun 0), .bool (s.begun 1), .bool (s.begun 2), .bool (s.begun 3), .bool (s.begun 4), .bool (s.begun 5),
    .bool (s.over 0), .bool (s.over 1), .bool (s.over 2), .bool (s.over 3), .bool (s.over 4), .bool (s.over 5),
    .int .i64 (s.owner 0), .int .i64 (s.owner 1), .int .i64 (s.owner 2), .int .i64 (s.owner 3), .int .i64 (s.owner 4)]
theorem idx5 {P : Nat → Prop} (h0 : P 0) (h1 : P 1) (h2 : P 2) (h3 : P 3) (h4 : P 4) : ∀ j, j < 5 → P j := by
  intro j hj; rcases (by omega : j = 0 ∨ j = 1 ∨ j = 2 ∨ j = 3 ∨ j = 4) with rfl | rfl | rfl | rfl | rfl <;> assumption
theorem stC_begun (s : St) (k : Nat) (hk : k < 6) : (stC s)[k]? = some (.bool (s.begun k)) := by revert k; apply idx6 <;> rfl
theorem stC_over (s : St) (k : Nat) (hk : k < 6) : (stC s)[6 + k]? = some (.bool (s.over k)) := by revert k; apply idx6 <;> rfl
theorem stC_owner (s : St) (k : Nat) (hk : k < 5) : (stC s)[12 + k]? = some (.int .i64 (s.owner k)) := by revert k; apply idx5 <;> rfl
theorem stC_setBegun (s : St) (k : Nat) (hk : k < 6) : (stC s).setIfInBounds k (.bool true) = stC { s with begun := updB s.begun k } := by
  revert k; apply idx6 <;> simp [stC, updB]
theorem stC_setOver (s : St) (k : Nat) (hk : k < 6) : (stC s).setIfInBounds (6 + k) (.bool true) = stC { s with over := updB s.over k } := by
  revert k; apply idx6 <;> simp [stC, updB]
theorem stC_setOwner (s : St) (k : Nat) (hk : k < 5) (x : Int) : (stC s).setIfInBounds (12 + k) (.int .i64 x) = stC { s with owner := updI s.owner k x } := by
  revert k; apply idx5 <;> simp [stC, updI]
theorem manyOf_le (k : Int) : manyOf k ≤ 8 := by unfold manyOf; (repeat split) <;> omega
theorem isEv_iff {e : Ev} : isEv e = true ↔ 0 ≤ e.t ∧ e.t < 6 ∧ 0 ≤ e.o ∧ e.o < manyOf e.k := by simp [isEv]
theorem manyOf_pos {k : Int} (h : 0 < manyOf k) : k = 1 ∨ k = 2 ∨ k = 3 ∨ k = 4 ∨ k = 5 ∨ k = 6 ∨ k = 7 ∨ k = 8 := by
  unfold manyOf at h; (repeat split at h) <;> omega

end Go.Proofs.YtmeidjhojanogaaDoor

/- Contracts of package trace: many, IsEvent. -/
namespace Go.Proofs.YtmeidjhojanogaaDoor
open Go.RowKit

set_option maxHeartbeats 400000 in
theorem many_any (k : Int) (w : World) : Calls Tryd.prog 44 #[.int .i64 k] w fun e w' => e = .returned (.int .i64 (manyOf k)) ∧ w' = w := by
  rcases (by omega : k = 1 ∨ k = 2 ∨ k = 3 ∨ k = 4 ∨ k = 5 ∨ k = 6 ∨ k = 7 ∨ k = 8 ∨ (k ≠ 1 ∧ k ≠ 2 ∧ k ≠ 3 ∧ k ≠ 4 ∧ k ≠ 5 ∧ k ≠ 6 ∧ k ≠ 7 ∧ k ≠ 8)) with rfl | rfl | rfl | rfl | rfl | rfl | rfl | rfl | ⟨h1, h2, h3, h4, h5, h6, h7, h8⟩
  case inr.inr.inr.inr.inr.inr.inr.inr =>
    have e1 : (k == 1) = false := by simpa using h1
    have e2 : (k == 2) = false := by simpa using h2
    have e3 : (k == 3) = false := by simpa using h3
    have e4 : (k == 4) = false := by simpa using h4
    have e5 : (k == 5) = false := by simpa using h5
    have e6 : (k == 6) = false := by simpa using h6
    have e7 : (k == 7) = false := by simpa using h7
    have e8 : (k == 8) = false := by simpa using h8
    have hm : manyOf k = 0 := by simp [manyOf, h1, h2, h3, h4, h5, h6, h7, h8]
    rw [hm]
    clear h1 h2 h3 h4 h5 h6 h7 h8 hm
    go_enter Tryd.func44, Tryd.ntmps44
    go_wp2
    go_ret
    exact ⟨rfl, rfl⟩
  all_goals
    go_enter Tryd.func44, Tryd.ntmps44
    go_wp2
    go_ret
    exact ⟨rfl, rfl⟩

set_option maxHeartbeats 1000000 in
theorem isEvent_any (e : Ev) (w : World) : Calls Tryd.prog 26 #[evV e] w fun r w' => r = .returned (.bool (isEv e)) ∧ Below w.heap.size w w' := by
  have h0 := Has.new w (evC e) 30
  have hb : Below w.heap.size w (w.alloc (.cells (evC e) 30)) := (Below.refl _ _).alloc (by simp) _
  have c0 : (w.alloc (.cells (evC e) 30)).cell? ⟨w.heap.size, 0, none⟩ = some (.int .i64 e.k) := h0.cell rfl
  have c1 : (w.alloc (.cells (evC e) 30)).cell? ⟨w.heap.size, 1, none⟩ = some (.int .i64 e.t) := h0.cell rfl
  have c2 : (w.alloc (.cells (evC e) 30)).cell? ⟨w.heap.size, 2, none⟩ = some (.int .i64 e.o) := h0.cell rfl
  rcases (by omega : e.t < 0 ∨ (0 ≤ e.t ∧ 6 ≤ e.t) ∨ (0 ≤ e.t ∧ e.t < 6 ∧ e.o < 0) ∨ (0 ≤ e.t ∧ e.t < 6 ∧ 0 ≤ e.o)) with h | ⟨h, h1⟩ | ⟨h, h1, h2⟩ | ⟨h, h1, h2⟩
  · have hr : isEv e = false := by simp [isEv]; omega
    have d : decide (0 ≤ e.t) = false := by simp; omega
    rw [hr]
    go_enter Tryd.func26, Tryd.ntmps26
    go_wp2
    go_quiet (fail)
    go_wp2
    go_ret
    exact ⟨rfl, below_drewN hb _⟩
  · have hr : isEv e = false := by simp [isEv]; omega
    have d : decide (e.t < 6) = false := by simp; omega
    rw [hr]
    go_enter Tryd.func26, Tryd.ntmps26
    go_wp2
    go_quiet (fail)
    go_wp2
    go_ret
    exact ⟨rfl, below_drewN hb _⟩
  · have hr : isEv e = false := by simp [isEv]; omega
    have d : decide (0 ≤ e.o) = false := by simp; omega
    rw [hr]
    go_enter Tryd.func26, Tryd.ntmps26
    go_wp2
    go_quiet (fail)
    go_wp2
    go_ret
    exact ⟨rfl, below_drewN hb _⟩
  · have hr : isEv e = decide (e.o < manyOf e.k) := by simp [isEv, h, h1, h2]
    rw [hr]
    clear hr
    go_enter Tryd.func26, Tryd.ntmps26
    go_wp2
    go_quiet ((go_at_call 44; exact Calls.quiet_of_same (many_any _ _)))
    go_wp2
    go_ret
    exact ⟨rfl, below_drewN hb _⟩
end Go.Proofs.YtmeidjhojanogaaDoor
