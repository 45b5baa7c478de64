/- What is directly ahead of what; the rows of 'ahead'. No program. -/
import Derived.Test.YtmeidjhojanogaaTr
namespace Go.Proofs.Ytmeidjhojanogaa

/-- Is an event directly ahead of a later one? -/
def dirE (a b : Ev) : Bool :=
  decide (a.t = b.t) || ((decide (a.k = 4 ∧ b.k = 3) || decide (a.k = 8 ∧ b.k = 7) || decide (a.k = 5 ∧ b.k = 6)) && decide (a.o = b.o)) || decide (a.k = 5 ∧ a.o = b.t) || decide (b.k = 6 ∧ b.o = a.t)
theorem dirE_iff {a b : Ev} : dirE a b = true ↔ a.t = b.t ∨ ((a.k = 4 ∧ b.k = 3 ∨ a.k = 8 ∧ b.k = 7 ∨ a.k = 5 ∧ b.k = 6) ∧ a.o = b.o) ∨ (a.k = 5 ∧ a.o = b.t) ∨ (b.k = 6 ∧ b.o = a.t) := by
  simp [dirE, or_assoc]
/-- The event at a place. -/
def evAt (l : List Ev) (i : Nat) : Ev := l.getD i ⟨0, 0, 0⟩
/-- One row of 'ahead', from place i downwards. -/
def rowDn (l : List Ev) (prev : Nat → Nat → Bool) (b : Ev) : Nat → (Nat → Bool) → (Nat → Bool)
  | 0, cur => cur
  | i + 1, cur => rowDn l prev b i (if cur i = false ∧ dirE (evAt l i) b = true then fun k => (if k = i then true else cur k) || prev i k else cur)
/-- The first j rows. -/
def rowsTo (l : List Ev) : Nat → Nat → Nat → Bool
  | 0 => fun _ _ => false
  | j + 1 => fun r k => if r = j then rowDn l (rowsTo l j) (evAt l j) j (fun _ => false) k else rowsTo l j r k
end Go.Proofs.Ytmeidjhojanogaa
