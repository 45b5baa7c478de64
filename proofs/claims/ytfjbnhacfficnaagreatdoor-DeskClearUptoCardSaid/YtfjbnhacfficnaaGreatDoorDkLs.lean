/- The laws of a desk, plain: what is asked of a line's answer. -/
import Derived.Test.YtfjbnhacfficnaaGreatDoorDkR
namespace Go.Proofs.YtfjbnhacfficnaaGreatDoor
open Go.RowKit Go.Lib

/-- Does an answer tell an error? -/
def isErrB (s : ByteArray) : Bool := decide (6 ≤ s.size ∧ s.extract 0 6 = ⟨#[101, 114, 114, 111, 114, 32]⟩)
theorem dkCmd_ok {k : Nat} {l : List Ev} {n : List Int} {a : ByteArray} {m : List Ev} (h : dkCmd k l n = .ok a m) : m = l ∨ a = okB := by
  unfold dkCmd at h
  split at h
  all_goals first
    | (injection h with h1 h2; exact .inl h2.symm)
    | (split at h; (first | (injection h with h1 h2; exact .inl h2.symm) | (injection h with h1 h2; exact .inr h1.symm)); cases h)
    | (injection h with h1 h2; exact .inr h1.symm)
theorem dkLine_ok {l : List Ev} {s : ByteArray} {a : ByteArray} {m : List Ev} (h : dkLine l s = .ok a m) : m = l ∨ a = okB := by
  unfold dkLine at h
  split at h
  · unfold dkTell at h
    split at h
    · cases h
    · split at h
      · injection h with h1 h2
        exact .inr h1.symm
      · cases h
  · split at h
    · cases h
    · split at h
      · cases h
      · split at h
        · split at h
          · cases h
          · exact dkCmd_ok h
        · cases h
/-- A line that ends in an error leaves no trace. -/
theorem dkF_err (l : List Ev) (s : ByteArray) (h : isErrB (dkF l s).1 = true) : (dkF l s).2 = l := by
  unfold dkF at h ⊢
  cases hk : dkLine l s with
  | no e => rfl
  | ok a m =>
    rw [hk] at h
    simp only at h ⊢
    rcases dkLine_ok hk with h1 | h1
    · exact h1
    · subst h1
      exact absurd h (by decide)
def sizeB : ByteArray := ⟨#[115, 105, 122, 101]⟩
def clearB : ByteArray := ⟨#[99, 108, 101, 97, 114]⟩
set_option maxRecDepth 100000 in
theorem words_size1 : wordsB sizeB = [sizeB] := by kernel_rfl
set_option maxRecDepth 100000 in
theorem words_clear1 : wordsB clearB = [clearB] := by kernel_rfl
theorem pick_size : dkPick sizeB = some 9 := by decide
theorem pick_clear : dkPick clearB = some 10 := by decide
theorem dkF_size (l : List Ev) : dkF l sizeB = (itB l.length, l) := by
  unfold dkF dkLine
  rw [words_size1, if_neg (by decide)]
  simp only [pick_size]
  rfl
theorem dkF_clear (l : List Ev) : dkF l clearB = (okB, []) := by
  unfold dkF dkLine
  rw [words_clear1, if_neg (by decide)]
  simp only [pick_clear]
  rfl
end Go.Proofs.YtfjbnhacfficnaaGreatDoor
