/- Clocks along a thread; sums of counts. No program. -/
import Derived.Test.YtlphmkdlacnnoaaStmT
namespace Go.Proofs.Ytlphmkdlacnnoaa

/-- The place behind the last event of a thread below n (0: none). -/
def pL (l : List Ev) (τ : Int) : Nat → Nat
  | 0 => 0
  | n + 1 => if (evAt l n).t = τ then n + 1 else pL l τ n
theorem pL_le (l : List Ev) (τ : Int) : ∀ n, pL l τ n ≤ n
  | 0 => Nat.le_refl _
  | n + 1 => by
    simp only [pL]
    split
    · exact Nat.le_refl _
    · exact Nat.le_succ_of_le (pL_le l τ n)
theorem pL_at (l : List Ev) (τ : Int) : ∀ {n p : Nat}, pL l τ n = p + 1 → (evAt l p).t = τ := by
  intro n
  induction n with
  | zero => intro p h; simp [pL] at h
  | succ n ih =>
    intro p h
    simp only [pL] at h
    split at h
    · obtain rfl : n = p := by omega
      assumption
    · exact ih h
def sumC (f : Nat → Int) : Nat → Int
  | 0 => 0
  | n + 1 => sumC f n + f n
theorem sumC_bd {f : Nat → Int} {M : Int} (h : ∀ i, 0 ≤ f i ∧ f i ≤ M) (n : Nat) : 0 ≤ sumC f n ∧ sumC f n ≤ n * M := by
  induction n with
  | zero => simp [sumC]
  | succ n ih =>
    have := h n
    simp only [sumC, Int.natCast_succ, Int.add_mul]
    omega
section
variable {l : List Ev} (h : (played l).2.2 = 0)
include h
theorem sum_cnt : ∀ {n : Nat}, n ≤ l.length → sumC (fun τ : Nat => cntT l τ n) 6 = n := by
  intro n
  induction n with
  | zero => intro _; rfl
  | succ n ih =>
    intro hn
    have := ih (by omega)
    obtain ⟨b1, b2, _, _⟩ := ev_at h (show n < l.length by omega)
    simp only [sumC, cntT] at *
    rcases (by omega : (evAt l n).t = 0 ∨ (evAt l n).t = 1 ∨ (evAt l n).t = 2 ∨ (evAt l n).t = 3 ∨ (evAt l n).t = 4 ∨ (evAt l n).t = 5) with e | e | e | e | e | e <;> rw [e] <;> simp at * <;> omega
theorem join_cnt {n : Nat} (hn : n < l.length) (τ : Nat) : max (cntT l τ n) (stampOf l n τ) = cntT l τ (n + 1) := by
  have h1 := stamp_many h hn τ
  have h2 := stamp_own h hn
  obtain ⟨b1, b2, _, _⟩ := ev_at h hn
  have h3 : cntT l τ (n + 1) = if (evAt l n).t = τ then cntT l τ n + 1 else cntT l τ n := rfl
  by_cases e : (evAt l n).t = τ
  · rw [show (evAt l n).t.toNat = τ by omega, e] at h2
    rw [h2]
    rw [if_pos e] at h3
    omega
  · rw [if_neg e] at h3
    omega
/-- From one event of a thread to its next one the clock is more. -/
theorem stamp_rises {i j : Nat} (hij : i < j) (hj : j < l.length) (ht : (evAt l i).t = (evAt l j).t) : cle (stampOf l i) (stampOf l j) = true ∧ ceq (stampOf l i) (stampOf l j) = false := by
  refine ⟨cle_iff.2 fun τ _ => stamp_dir h hij hj (dirE_iff.2 (.inl ht)) τ, ?_⟩
  rw [Bool.eq_false_iff]
  intro he
  obtain ⟨b1, b2, _, _⟩ := ev_at h hj
  have h1 := ceq_iff.1 he (evAt l j).t.toNat (by omega)
  have h2 := (stamp_rank h hj).2.2
  have h3 := (stamp_rank h (show i < l.length by omega)).2.2
  rw [ht] at h3
  rw [h2, h3] at h1
  have := rkE_lt hij ht
  omega
end
end Go.Proofs.Ytlphmkdlacnnoaa
