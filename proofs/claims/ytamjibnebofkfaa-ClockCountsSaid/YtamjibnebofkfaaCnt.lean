/- Ticks, plain: how many there were, in whatever order. No program. -/
import Derived.Test.YtamjibnebofkfaaClkC
namespace Go.Proofs.Ytamjibnebofkfaa

def tkOk (f : Nat → Int) (t : Int) : Bool := decide (0 ≤ t) && decide (t < 6) && decide (f t.toNat < 1000000)
def tkS (f : Nat → Int) (t : Int) : Nat → Int := if tkOk f t then cup f t.toNat 1 else f
def tkL (f : Nat → Int) (l : List Int) : Nat → Int := l.foldl tkS f
/-- How many were done. -/
def tkN (f : Nat → Int) : List Int → Nat
  | [] => 0
  | t :: l => (if tkOk f t then 1 else 0) + tkN (tkS f t) l
def capV (x : Int) (n : Nat) : Int := if x < 1000000 then min (x + n) 1000000 else x
theorem capV_zero (x : Int) : capV x 0 = x := by unfold capV; split <;> omega
theorem capV_succ (x : Int) (n : Nat) : capV (if x < 1000000 then x + 1 else x) n = capV x (n + 1) := by
  unfold capV
  by_cases h : x < 1000000
  · rw [if_pos h, if_pos h]; split <;> omega
  · rw [if_neg h, if_neg h, if_neg h]
theorem tkL_get (l : List Int) : ∀ (f : Nat → Int) (i : Nat), i < 6 → tkL f l i = capV (f i) (l.count (i : Int)) := by
  induction l with
  | nil => intro f i _; simp [tkL, capV_zero]
  | cons t l ih =>
    intro f i hi
    show tkL (tkS f t) l i = _
    rw [ih _ i hi, List.count_cons]
    by_cases e : t = (i : Int)
    · subst e
      rw [if_pos (by simp), ← capV_succ]
      congr 1
      unfold tkS
      have h6 : (i : Int) < 6 := by omega
      by_cases h : f i < 1000000
      · simp [tkOk, h, h6, cup]
      · simp [tkOk, h]
    · rw [if_neg (by simpa using e)]
      congr 1
      unfold tkS
      split
      · rename_i hk
        simp only [tkOk, Bool.and_eq_true, decide_eq_true_eq] at hk
        simp only [cup]
        rw [if_neg (by omega)]
      · rfl
theorem tkL_perm {l m : List Int} (h : ∀ i : Int, l.count i = m.count i) (f : Nat → Int) : ceq (tkL f l) (tkL f m) = true :=
  ceq_iff.2 fun i hi => by rw [tkL_get l f i hi, tkL_get m f i hi, h]
def s6 (f : Nat → Int) : Int := f 0 + f 1 + f 2 + f 3 + f 4 + f 5
theorem tkN_sum (l : List Int) : ∀ f, s6 (tkL f l) = s6 f + tkN f l := by
  induction l with
  | nil => intro f; simp [tkL, tkN]
  | cons t l ih =>
    intro f
    show s6 (tkL (tkS f t) l) = _
    rw [ih]
    simp only [tkN, tkS]
    by_cases e : tkOk f t = true
    · rw [if_pos e, if_pos e]
      simp only [tkOk, Bool.and_eq_true, decide_eq_true_eq] at e
      have hs : s6 (cup f t.toNat 1) = s6 f + 1 := by
        obtain ⟨k, hk⟩ : ∃ k : Nat, t.toNat = k := ⟨_, rfl⟩
        rw [hk]
        rcases (by omega : k = 0 ∨ k = 1 ∨ k = 2 ∨ k = 3 ∨ k = 4 ∨ k = 5) with rfl | rfl | rfl | rfl | rfl | rfl <;> simp [s6, cup] <;> omega
      rw [hs]; omega
    · rw [if_neg e, if_neg e]; omega
theorem tkN_len (l : List Int) : ∀ f, tkN f l ≤ l.length := by
  induction l with
  | nil => intro f; simp [tkN]
  | cons t l ih => intro f; have := ih (tkS f t); simp only [tkN, List.length_cons]; split <;> omega
theorem tkL_range (l : List Int) (f : Nat → Int) {i : Nat} (hi : i < 6) : f i ≤ tkL f l i ∧ tkL f l i ≤ f i + l.length ∧ (tkL f l i ≤ f i ∨ tkL f l i ≤ 1000000) := by
  rw [tkL_get l f i hi]
  have := List.count_le_length (a := (i : Int)) (l := l)
  unfold capV
  split <;> omega
theorem tkL_snoc (f : Nat → Int) (l : List Int) (t : Int) : tkL f (l ++ [t]) = tkS (tkL f l) t := by simp [tkL]
theorem tkN_snoc (t : Int) (l : List Int) : ∀ f, tkN f (l ++ [t]) = tkN f l + if tkOk (tkL f l) t then 1 else 0 := by
  induction l with
  | nil => intro f; simp only [List.nil_append, tkN, Nat.add_zero, Nat.zero_add]; rfl
  | cons a l ih => intro f; simp only [List.cons_append, tkN]; rw [ih, Nat.add_assoc]; rfl
end Go.Proofs.Ytamjibnebofkfaa
