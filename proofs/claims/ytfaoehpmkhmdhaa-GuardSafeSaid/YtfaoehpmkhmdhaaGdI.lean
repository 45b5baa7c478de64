/- Guards: plain laws of the locks in common; equality of guards that know nothing. -/
import Derived.Test.YtfaoehpmkhmdhaaGdH
import Derived.DeepKeys
namespace Go.Proofs.Ytfaoehpmkhmdhaa
open Go.RowKit

/-- All of a is in b. -/
def subN (a b : Nat) : Prop := ∀ j, a.testBit j = true → b.testBit j = true
theorem subN_and {a b L : Nat} (h : subN a b) : subN (a &&& L) b := fun j hj => by
  rw [Nat.testBit_and, Bool.and_eq_true] at hj
  exact h j hj.1
theorem subN_and2 {a b L : Nat} (h : subN a b) : subN (a &&& L) (b &&& L) := fun j hj => by
  rw [Nat.testBit_and, Bool.and_eq_true] at hj ⊢
  exact ⟨h j hj.1, hj.2⟩
theorem subN_right {a L : Nat} : subN (a &&& L) L := fun j hj => by
  rw [Nat.testBit_and, Bool.and_eq_true] at hj
  exact hj.2
/-- The locks of a guard include those in common. -/
theorem keeps_sub {l : List Ev} (hp : (played l).2.2 = 0) (x : Nat) : ∀ i, i ≤ l.length → subN (coL l x i) ((gdL l i).G x).lk
  | 0, _ => fun j hj => hj
  | i + 1, hi => by
    have ih := keeps_sub hp x i (by omega)
    have hE := isEv_iff.2 (ev_at hp (show i < l.length by omega))
    have ho := (isEv_iff.1 hE).2.2.1
    have hu : gdL l (i + 1) = gStep (gdL l i) i (evAt l i) := rfl
    rw [hu]
    show subN (if _ then _ else _) _
    unfold gStep
    by_cases ha : isAcc (evAt l i) = true
    · rw [if_pos ha]
      show subN _ (upG (gdL l i).G (evAt l i).o.toNat (gAcc ((gdL l i).G (evAt l i).o.toNat) (evAt l i) (lkAt l i)) x).lk
      by_cases hx : (evAt l i).o = (x : Int)
      · have hxn : (evAt l i).o.toNat = x := by omega
        rw [hxn, if_pos (by rw [ha, hx]; simp)]
        unfold upG
        rw [if_pos rfl]
        unfold gAcc
        split
        · exact subN_and ih
        · split
          · exact subN_and ih
          · split
            · exact subN_right
            · split
              · exact subN_right
              · exact subN_and2 ih
      · rw [if_neg (by simp [hx])]
        unfold upG
        rw [if_neg (by omega)]
        exact ih
    · rw [if_neg (by simp [ha]), if_neg ha]
      exact ih
set_option maxRecDepth 100000 in
theorem naB : ∀ a b : Fin 32, bits .andNot .i64 (a.val : Int) (b.val : Int) = ((a.val &&& (31 ^^^ b.val) : Nat) : Int) := by decide +kernel
theorem subN_not {a b : Nat} (ha : a < 32) (hb : b < 32) (h : subN a b) : a &&& (31 ^^^ b) = 0 := by
  apply Nat.eq_of_testBit_eq
  intro j
  rw [Nat.testBit_and, Nat.testBit_xor, Nat.zero_testBit]
  cases hj : a.testBit j with
  | false => rfl
  | true =>
    rw [h j hj, Bool.true_and]
    have : j < 5 := by
      rcases Nat.lt_or_ge j 5 with h5 | h5
      · exact h5
      · rw [Nat.testBit_lt_two_pow (Nat.lt_of_lt_of_le ha (Nat.le_trans (show 32 ≤ 2 ^ 5 by decide) (Nat.pow_le_pow_right (by decide) h5)))] at hj
        cases hj
    rcases (show j = 0 ∨ j = 1 ∨ j = 2 ∨ j = 3 ∨ j = 4 by omega) with rfl | rfl | rfl | rfl | rfl <;> decide
theorem na_sub {a b : Nat} (ha : a < 32) (hb : b < 32) (h : subN a b) : bits .andNot .i64 (a : Int) (b : Int) = 0 := by
  rw [naB ⟨a, ha⟩ ⟨b, hb⟩]
  show ((a &&& (31 ^^^ b) : Nat) : Int) = 0
  rw [subN_not ha hb h]
  rfl
theorem sub31 {a : Nat} (ha : a < 32) : subN a 31 := fun j hj => by
  have : j < 5 := by
    rcases Nat.lt_or_ge j 5 with h5 | h5
    · exact h5
    · rw [Nat.testBit_lt_two_pow (Nat.lt_of_lt_of_le ha (Nat.le_trans (show 32 ≤ 2 ^ 5 by decide) (Nat.pow_le_pow_right (by decide) h5)))] at hj
      cases hj
  rcases (show j = 0 ∨ j = 1 ∨ j = 2 ∨ j = 3 ∨ j = 4 by omega) with rfl | rfl | rfl | rfl | rfl <;> decide
theorem na_31 {a : Nat} (ha : a < 32) : bits .andNot .i64 (a : Int) 31 = 0 := na_sub ha (by decide) (sub31 ha)
set_option maxRecDepth 100000 in
theorem gs_deep : EqAt Try.prog 10000 gsT := run_equalIn_deep 9997 3 gsT (by kernel_rfl)
theorem gs_formed (G : Nat → GV) : (Value.agg (gsC G)).formed Try.prog gsT = true := by simp only [Value.formed, Try.underlying44]; rw [gsC_size]; kernel_rfl
set_option maxRecDepth 100000 in
theorem gs_lits : Try.prog.keyLits 3 gsT (gsC fun _ => gZero).toList = some ((List.range 24).map fun _ => Lit.int .i64 0) := by kernel_rfl
/-- Guards that know nothing are equal to the zero value. -/
theorem eql_gs (w : World) : (binOp .eql gsT (.agg (gsC fun _ => gZero)) (.agg (gsC fun _ => gZero))).run Try.prog w = .ok (.bool true) w := by
  obtain ⟨r, hr, hiff⟩ := gs_deep w 3 3 (.agg (gsC fun _ => gZero)) (.agg (gsC fun _ => gZero)) _ _ (gs_formed _) (gs_formed _) gs_lits gs_lits
  rw [run_eql_struct]
  generalize hD : (10000 : Nat) = D at *
  rw [hr, hiff.2 rfl]
  rfl
end Go.Proofs.Ytfaoehpmkhmdhaa
