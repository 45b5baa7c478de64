/- The detector by full clocks, plain: what it keeps of a variable, its flags. No program. -/
import Derived.Test.YtdhbgbneadcmiaaFulT
namespace Go.Proofs.Ytdhbgbneadcmiaa

/-- The clocks of a variable behind m events: reads, writes. -/
def rdAt (l : List Ev) : Nat → Nat → Nat → Int
  | 0 => fun _ _ => 0
  | m + 1 => fun x τ => if (evAt l m).k = 1 ∧ (evAt l m).o = x ∧ (evAt l m).t = τ then vw l m τ else rdAt l m x τ
def wrAt (l : List Ev) : Nat → Nat → Nat → Int
  | 0 => fun _ _ => 0
  | m + 1 => fun x τ => if (evAt l m).k = 2 ∧ (evAt l m).o = x ∧ (evAt l m).t = τ then vw l m τ else wrAt l m x τ
/-- What event m is flagged as. -/
def fKind (l : List Ev) (m : Nat) : Int :=
  if (evAt l m).k = 1 then (if cle (wrAt l m (evAt l m).o.toNat) (vw l m) then 0 else 2)
  else if (evAt l m).k = 2 then (if cle (wrAt l m (evAt l m).o.toNat) (vw l m) then (if cle (rdAt l m (evAt l m).o.toNat) (vw l m) then 0 else 3) else 1)
  else 0
/-- The flags of the first m events (a flag is written as three numbers, as an event is: its place, its variable, its kind). -/
def fFlags (l : List Ev) : Nat → List Ev
  | 0 => []
  | m + 1 => if fKind l m = 0 then fFlags l m else fFlags l m ++ [⟨m, (evAt l m).o, fKind l m⟩]
theorem fFlags_len (l : List Ev) : ∀ m, (fFlags l m).length ≤ m
  | 0 => Nat.le_refl _
  | m + 1 => by
    simp only [fFlags]
    have := fFlags_len l m
    split
    · omega
    · simp; omega
theorem fFlags_lt (l : List Ev) : ∀ m, ∀ f ∈ fFlags l m, 0 ≤ f.k ∧ f.k < m
  | 0 => by simp [fFlags]
  | m + 1 => by
    intro f hf
    simp only [fFlags] at hf
    split at hf
    · have := fFlags_lt l m f hf; omega
    · rcases List.mem_append.1 hf with h1 | h1
      · have := fFlags_lt l m f h1; omega
      · simp at h1; subst h1; simp only; omega
/-- The flags behind n are at places from n on. -/
theorem fFlags_split (l : List Ev) (n : Nat) : ∀ m, n ≤ m → ∃ r, fFlags l m = fFlags l n ++ r ∧ ∀ f ∈ r, (n : Int) ≤ f.k := by
  intro m
  induction m with
  | zero => intro h; obtain rfl : n = 0 := by omega
            exact ⟨[], by simp, by simp⟩
  | succ m ih =>
    intro h
    by_cases e : n = m + 1
    · subst e; exact ⟨[], by simp, by simp⟩
    · obtain ⟨r, h1, h2⟩ := ih (by omega)
      simp only [fFlags]
      split
      · exact ⟨r, h1, h2⟩
      · refine ⟨r ++ [⟨m, (evAt l m).o, fKind l m⟩], by rw [h1, List.append_assoc], fun f hf => ?_⟩
        rcases List.mem_append.1 hf with h3 | h3
        · exact h2 f h3
        · simp at h3; subst h3; simp only; omega
theorem fAt_take (l : List Ev) (n : Nat) : ∀ m, m ≤ n → fAt (l.take n) m = fAt l m := by
  intro m
  induction m with
  | zero => intro _; rfl
  | succ m ih => intro h; simp only [fAt]; rw [ih (by omega), evAt_take l n m (by omega)]
theorem vw_take (l : List Ev) (n m : Nat) (h : m < n) : vw (l.take n) m = vw l m := by
  unfold vw; rw [fAt_take l n m (by omega), evAt_take l n m h]
theorem rdAt_take (l : List Ev) (n : Nat) : ∀ m, m ≤ n → rdAt (l.take n) m = rdAt l m := by
  intro m
  induction m with
  | zero => intro _; rfl
  | succ m ih => intro h; simp only [rdAt]; rw [ih (by omega), evAt_take l n m (by omega), vw_take l n m (by omega)]
theorem wrAt_take (l : List Ev) (n : Nat) : ∀ m, m ≤ n → wrAt (l.take n) m = wrAt l m := by
  intro m
  induction m with
  | zero => intro _; rfl
  | succ m ih => intro h; simp only [wrAt]; rw [ih (by omega), evAt_take l n m (by omega), vw_take l n m (by omega)]
theorem fKind_take (l : List Ev) (n m : Nat) (h : m < n) : fKind (l.take n) m = fKind l m := by
  unfold fKind; rw [evAt_take l n m h, vw_take l n m h, rdAt_take l n m (by omega), wrAt_take l n m (by omega)]
theorem fFlags_take (l : List Ev) (n : Nat) : ∀ m, m ≤ n → fFlags (l.take n) m = fFlags l m := by
  intro m
  induction m with
  | zero => intro _; rfl
  | succ m ih => intro h; simp only [fFlags]; rw [ih (by omega), fKind_take l n m (by omega), evAt_take l n m (by omega)]
section
variable {l : List Ev} (h : (played l).2.2 = 0)
include h
/-- Who has read (written) a variable has a number there, and who has not has none. -/
theorem rdAt_pos (x t : Nat) : ∀ m, m ≤ l.length → 0 ≤ rdAt l m x t ∧ (0 < rdAt l m x t ↔ ∃ i, i < m ∧ (evAt l i).k = 1 ∧ (evAt l i).o = x ∧ (evAt l i).t = t) := by
  intro m
  induction m with
  | zero => intro _; exact ⟨Int.le_refl _, fun h => by simp [rdAt] at h, fun ⟨i, hi, _⟩ => by omega⟩
  | succ m ih =>
    intro hm
    obtain ⟨h1, h2⟩ := ih (by omega)
    simp only [rdAt]
    split
    · rename_i c
      have := epo_pos h (i := m) (by omega)
      unfold epo at this
      rw [show (evAt l m).t.toNat = t by omega] at this
      exact ⟨by omega, fun _ => ⟨m, by omega, c⟩, fun _ => by omega⟩
    · rename_i c
      refine ⟨h1, fun h3 => ?_, fun ⟨i, hi, h3⟩ => ?_⟩
      · obtain ⟨i, hi, h4⟩ := h2.1 h3
        exact ⟨i, by omega, h4⟩
      · by_cases e : i = m
        · subst e; exact absurd h3 c
        · exact h2.2 ⟨i, by omega, h3⟩
theorem wrAt_pos (x t : Nat) : ∀ m, m ≤ l.length → 0 ≤ wrAt l m x t ∧ (0 < wrAt l m x t ↔ ∃ i, i < m ∧ (evAt l i).k = 2 ∧ (evAt l i).o = x ∧ (evAt l i).t = t) := by
  intro m
  induction m with
  | zero => intro _; exact ⟨Int.le_refl _, fun h => by simp [wrAt] at h, fun ⟨i, hi, _⟩ => by omega⟩
  | succ m ih =>
    intro hm
    obtain ⟨h1, h2⟩ := ih (by omega)
    simp only [wrAt]
    split
    · rename_i c
      have := epo_pos h (i := m) (by omega)
      unfold epo at this
      rw [show (evAt l m).t.toNat = t by omega] at this
      exact ⟨by omega, fun _ => ⟨m, by omega, c⟩, fun _ => by omega⟩
    · rename_i c
      refine ⟨h1, fun h3 => ?_, fun ⟨i, hi, h3⟩ => ?_⟩
      · obtain ⟨i, hi, h4⟩ := h2.1 h3
        exact ⟨i, by omega, h4⟩
      · by_cases e : i = m
        · subst e; exact absurd h3 c
        · exact h2.2 ⟨i, by omega, h3⟩
end
end Go.Proofs.Ytdhbgbneadcmiaa
