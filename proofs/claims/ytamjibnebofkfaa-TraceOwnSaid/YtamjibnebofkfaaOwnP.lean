/- Who has a lock acquired it last; sets of locks as numbers. No program. -/
import Derived.Test.YtamjibnebofkfaaVal
import Derived.Test.YtamjibnebofkfaaHeld
namespace Go.Proofs.Ytamjibnebofkfaa

/-- Is it of lock k? -/
def ofLk (k : Nat) (e : Ev) : Bool := (decide (e.k = 3) || decide (e.k = 4)) && decide (e.o = k)
/-- The last one among the first m. -/
def lastOf (l : List Ev) (k : Nat) : Nat → Ev
  | 0 => ⟨0, 0, 0⟩
  | m + 1 => if ofLk k (evAt l m) then evAt l m else lastOf l k m
theorem own_last {l : List Ev} (h : (played l).2.2 = 0) (k : Nat) : ∀ m, m ≤ l.length → (stAt l m).owner k = if (lastOf l k m).k = 3 then (lastOf l k m).t + 1 else 0
  | 0, _ => rfl
  | m + 1, hm => by
    have ih := own_last h k m (by omega)
    have he := ev_at h (i := m) (by omega)
    rw [stAt, stFrom_succ _ _ _ (by omega)]
    by_cases e : ofLk k (evAt l m) = true
    · have hl : lastOf l k (m + 1) = evAt l m := by simp only [lastOf]; rw [if_pos e]
      rw [hl]
      simp only [ofLk, Bool.and_eq_true, Bool.or_eq_true, decide_eq_true_eq] at e
      have := lock_own (s := stFrom St.first l m) e.1
      rw [show (evAt l m).o.toNat = k by omega] at this
      exact this
    · have hl : lastOf l k (m + 1) = lastOf l k m := by simp only [lastOf]; rw [if_neg e]
      rw [hl, ← ih]
      have := lock_step (s := stFrom St.first l m) (e := evAt l m) (o := (k : Int)) (by omega) he.2.2.1 (by simpa [ofLk] using e)
      simpa using this
theorem own_iff {l : List Ev} (h : (played l).2.2 = 0) {k t : Nat} : ownB (played l).1 t k = (decide ((lastOf l k l.length).k = 3) && decide ((lastOf l k l.length).t = t)) := by
  rw [ownB, (ok_at h).2, own_last h k _ (Nat.le_refl _)]
  by_cases e : (lastOf l k l.length).k = 3
  · rw [if_pos e]
    by_cases e2 : (lastOf l k l.length).t = t
    · simp [e, e2]
    · have : ¬ ((lastOf l k l.length).t + 1 = (t : Int) + 1) := by omega
      simp [e, e2]
  · rw [if_neg e]
    simp [e]; omega
/-- The locks of the threads below n. -/
def ownU (s : St) (n : Nat) : Nat → Bool := fun k => decide (0 < s.owner k) && decide (s.owner k ≤ n)
theorem ownU_zero (s : St) : setN (ownU s 0) 5 = 0 := by
  have : ∀ k, ownU s 0 k = false := fun k => by simp [ownU]
  simp [setN, this]
theorem ownU_succ (s : St) (n k : Nat) : ownU s (n + 1) k = (ownU s n k || ownB s n k) := by
  simp only [ownU, ownB]
  by_cases e : s.owner k = (n : Int) + 1
  · simp [e]
  · have h1 : (s.owner k == (n : Int) + 1) = false := by simpa using e
    rw [h1, Bool.or_false]
    congr 1
    exact decide_eq_decide.2 (by omega)
theorem ownU_apart (s : St) (n k : Nat) : (ownB s n k && ownU s n k) = false := by
  simp only [ownU, ownB]
  by_cases e : s.owner k = (n : Int) + 1
  · simp [e]; omega
  · have h1 : (s.owner k == (n : Int) + 1) = false := by simpa using e
    rw [h1]; rfl
def s5 (b0 b1 b2 b3 b4 : Bool) : Nat := 0 + (if b0 then 2 ^ 0 else 0) + (if b1 then 2 ^ 1 else 0) + (if b2 then 2 ^ 2 else 0) + (if b3 then 2 ^ 3 else 0) + (if b4 then 2 ^ 4 else 0)
set_option maxRecDepth 100000 in
theorem and_sets : ∀ (b0 b1 b2 b3 b4 c0 c1 c2 c3 c4 : Bool), bits BinOp.and .i64 (s5 b0 b1 b2 b3 b4 : Nat) (s5 c0 c1 c2 c3 c4 : Nat) = (s5 (b0 && c0) (b1 && c1) (b2 && c2) (b3 && c3) (b4 && c4) : Nat) := by decide +kernel
set_option maxRecDepth 100000 in
theorem or_sets : ∀ (b0 b1 b2 b3 b4 c0 c1 c2 c3 c4 : Bool), bits BinOp.or .i64 (s5 b0 b1 b2 b3 b4 : Nat) (s5 c0 c1 c2 c3 c4 : Nat) = (s5 (b0 || c0) (b1 || c1) (b2 || c2) (b3 || c3) (b4 || c4) : Nat) := by decide +kernel
theorem setN_s5 (f : Nat → Bool) : setN f 5 = s5 (f 0) (f 1) (f 2) (f 3) (f 4) := rfl
theorem and_setN (f g : Nat → Bool) : bits BinOp.and .i64 (setN f 5 : Nat) (setN g 5 : Nat) = (setN (fun k => f k && g k) 5 : Nat) := by
  rw [setN_s5, setN_s5, setN_s5, and_sets]
theorem or_setN (f g : Nat → Bool) : bits BinOp.or .i64 (setN f 5 : Nat) (setN g 5 : Nat) = (setN (fun k => f k || g k) 5 : Nat) := by
  rw [setN_s5, setN_s5, setN_s5, or_sets]
theorem held_apart (s : St) (n : Nat) : bits BinOp.and .i64 (setN (ownB s n) 5 : Nat) (setN (ownU s n) 5 : Nat) = 0 := by
  rw [and_setN]
  simp only [ownU_apart]
  rfl
theorem held_more (s : St) (n : Nat) : bits BinOp.or .i64 (setN (ownU s n) 5 : Nat) (setN (ownB s n) 5 : Nat) = (setN (ownU s (n + 1)) 5 : Nat) := by
  rw [or_setN]
  congr 2
  funext k
  rw [ownU_succ]
theorem set_bits5 : ∀ (b0 b1 b2 b3 b4 : Bool) (k : Fin 5), (bits BinOp.and .i64 (((s5 b0 b1 b2 b3 b4 : Nat) : Int) / 2 ^ k.val) 1 == 1) = (match k.val with | 0 => b0 | 1 => b1 | 2 => b2 | 3 => b3 | _ => b4) := by decide +kernel
theorem set_bit5 (own : Nat → Bool) {k : Nat} (h : k < 5) : (bits BinOp.and .i64 (((setN own 5 : Nat) : Int) / 2 ^ k) 1 == 1) = own k := by
  have := set_bits5 (own 0) (own 1) (own 2) (own 3) (own 4) ⟨k, h⟩
  rw [setN_s5, this]
  rcases (by omega : k = 0 ∨ k = 1 ∨ k = 2 ∨ k = 3 ∨ k = 4) with rfl | rfl | rfl | rfl | rfl <;> rfl
end Go.Proofs.Ytamjibnebofkfaa
