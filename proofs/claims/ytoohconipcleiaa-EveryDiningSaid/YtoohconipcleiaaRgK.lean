/- Rank: contract. -/
import Derived.Test.YtoohconipcleiaaMU
import Derived.Test.YtoohconipcleiaaRgP
import Derived.Test.YtoohconipcleiaaMM
import Derived.Deep.DeepCutAuto
import Derived.Deep.RegionLaw
namespace Go.Proofs.Ytoohconipcleiaa
open Go.RowKit

/-- One step, one row, one round of ranks. -/
def stepR (E : Nat → Nat → Bool) (o : Nat → Int) (a b : Nat) : Nat → Int := if E a b then fun i => if i = b then (if o b ≤ o a + 1 then o a + 1 else o b) else o i else o
def rowRk (E : Nat → Nat → Bool) (a : Nat) (o : Nat → Int) : Nat → Nat → Int
  | 0 => o
  | b + 1 => stepR E (rowRk E a o b) a b
def roundR (E : Nat → Nat → Bool) (o : Nat → Int) : Nat → Nat → Int
  | 0 => o
  | a + 1 => rowRk E a (roundR E o a) 5
def rankR (E : Nat → Nat → Bool) : Nat → Nat → Int
  | 0 => fun _ => 0
  | r + 1 => roundR E (rankR E r) 5
def UptoR (o : Nat → Int) (m : Nat) : Prop := ∀ i, i < 5 → 0 ≤ o i ∧ o i ≤ m
theorem UptoR.step {E : Nat → Nat → Bool} {o : Nat → Int} {m : Nat} (h : UptoR o m) {a b : Nat} (ha : a < 5) : UptoR (stepR E o a b) (m + 1) := by
  intro i hi
  obtain ⟨h1, h2⟩ := h i hi
  obtain ⟨h3, h4⟩ := h a ha
  unfold stepR
  split
  · dsimp only
    split
    · rename_i e
      subst e
      split <;> omega
    · omega
  · omega
theorem UptoR.row {E : Nat → Nat → Bool} {o : Nat → Int} {m : Nat} (h : UptoR o m) {a : Nat} (ha : a < 5) : ∀ b, UptoR (rowRk E a o b) (m + b)
  | 0 => h
  | b + 1 => (UptoR.row h ha b).step ha
theorem UptoR.round {E : Nat → Nat → Bool} {o : Nat → Int} {m : Nat} (h : UptoR o m) : ∀ a, a ≤ 5 → UptoR (roundR E o a) (m + a * 5)
  | 0, _ => by rw [Nat.zero_mul, Nat.add_zero]; exact h
  | a + 1, ha => by
    have := (UptoR.round (E := E) h a (by omega)).row (E := E) (a := a) (by omega) 5
    rw [show m + (a + 1) * 5 = m + a * 5 + 5 by omega]
    exact this
theorem uptoR_rank (E : Nat → Nat → Bool) : ∀ r, UptoR (rankR E r) (r * 25)
  | 0 => fun _ _ => by simp [rankR]
  | r + 1 => by
    have := (uptoR_rank E r).round (E := E) 5 (by omega)
    rw [show (r + 1) * 25 = r * 25 + 5 * 5 by omega]
    exact this
abbrev z5 : Array Value := #[.int .i64 0, .int .i64 0, .int .i64 0, .int .i64 0, .int .i64 0]
end Go.Proofs.Ytoohconipcleiaa
