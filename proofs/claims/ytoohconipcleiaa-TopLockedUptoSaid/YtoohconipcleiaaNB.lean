/- Joined texts. -/
import Derived.Test.YtoohconipcleiaaGdH
import Derived.DeepKeys
import Derived.Test.YtoohconipcleiaaMD

/- Guards: plain laws of the locks in common; equality of guards that know nothing. -/
namespace Go.Proofs.Ytoohconipcleiaa
open Go.RowKit

/-- All of a is in b. -/
def subN (a b : Nat) : Prop := ∀ j, a.testBit j = true → b.testBit j = true
theorem subN_and {a b L : Nat} (h : subN a b) : subN (a &&& L) b := fun j hj => by
  rw [Nat.testBit_and, Bool.and_eq_true] at hj
  exact h j hj.1
theorem subN_and2 {a b L : Nat} (h : subN a b) : subN (a &&& L) (b &&& L) := fun j hj => by
  rw [Nat.testBit_and, Bool.and_eq_true] at hj ⊢
  exact ⟨h j hj.1, hj.2⟩
theorem subN_right {a L : Nat} : subN (a &&& L) L := fun j hj => by
  rw [Nat.testBit_and, Bool.and_eq_true] at hj
  exact hj.2
/-- The locks of a guard include those in common. -/
theorem keeps_sub {l : List Ev} (hp : (played l).2.2 = 0) (x : Nat) : ∀ i, i ≤ l.length → subN (coL l x i) ((gdL l i).G x).lk
  | 0, _ => fun j hj => hj
  | i + 1, hi => by
    have ih := keeps_sub hp x i (by omega)
    have hE := isEv_iff.2 (ev_at hp (show i < l.length by omega))
    have ho := (isEv_iff.1 hE).2.2.1
    have hu : gdL l (i + 1) = gStep (gdL l i) i (evAt l i) := rfl
    rw [hu]
    show subN (if _ then _ else _) _
    unfold gStep
    by_cases ha : isAcc (evAt l i) = true
    · rw [if_pos ha]
      show subN _ (upG (gdL l i).G (evAt l i).o.toNat (gAcc ((gdL l i).G (evAt l i).o.toNat) (evAt l i) (lkAt l i)) x).lk
      by_cases hx : (evAt l i).o = (x : Int)
      · have hxn : (evAt l i).o.toNat = x := by omega
        rw [hxn, if_pos (by rw [ha, hx]; simp)]
        unfold upG
        rw [if_pos rfl]
        unfold gAcc
        split
        · exact subN_and ih
        · split
          · exact subN_and ih
          · split
            · exact subN_right
            · split
              · exact subN_right
              · exact subN_and2 ih
      · rw [if_neg (by simp [hx])]
        unfold upG
        rw [if_neg (by omega)]
        exact ih
    · rw [if_neg (by simp [ha]), if_neg ha]
      exact ih
set_option maxRecDepth 100000 in
theorem naB : ∀ a b : Fin 32, bits .andNot .i64 (a.val : Int) (b.val : Int) = ((a.val &&& (31 ^^^ b.val) : Nat) : Int) := by decide +kernel
theorem subN_not {a b : Nat} (ha : a < 32) (_ : b < 32) (h : subN a b) : a &&& (31 ^^^ b) = 0 := by
  apply Nat.eq_of_testBit_eq
  intro j
  rw [Nat.testBit_and, Nat.testBit_xor, Nat.zero_testBit]
  cases hj : a.testBit j with
  | false => rfl
  | true =>
    rw [h j hj, Bool.true_and]
    have : j < 5 := by
      rcases Nat.lt_or_ge j 5 with h5 | h5
      · exact h5
      · rw [Nat.testBit_lt_two_pow (Nat.lt_of_lt_of_le ha (Nat.le_trans (show 32 ≤ 2 ^ 5 by decide) (Nat.pow_le_pow_right (by decide) h5)))] at hj
        cases hj
    rcases (show j = 0 ∨ j = 1 ∨ j = 2 ∨ j = 3 ∨ j = 4 by omega) with rfl | rfl | rfl | rfl | rfl <;> decide
theorem na_sub {a b : Nat} (ha : a < 32) (hb : b < 32) (h : subN a b) : bits .andNot .i64 (a : Int) (b : Int) = 0 := by
  rw [naB ⟨a, ha⟩ ⟨b, hb⟩]
  show ((a &&& (31 ^^^ b) : Nat) : Int) = 0
  rw [subN_not ha hb h]
  rfl
theorem sub31 {a : Nat} (ha : a < 32) : subN a 31 := fun j hj => by
  have : j < 5 := by
    rcases Nat.lt_or_ge j 5 with h5 | h5
    · exact h5
    · rw [Nat.testBit_lt_two_pow (Nat.lt_of_lt_of_le ha (Nat.le_trans (show 32 ≤ 2 ^ 5 by decide) (Nat.pow_le_pow_right (by decide) h5)))] at hj
      cases hj
  rcases (show j = 0 ∨ j = 1 ∨ j = 2 ∨ j = 3 ∨ j = 4 by omega) with rfl | rfl | rfl | rfl | rfl <;> decide
theorem na_31 {a : Nat} (ha : a < 32) : bits .andNot .i64 (a : Int) 31 = 0 := na_sub ha (by decide) (sub31 ha)
set_option maxRecDepth 100000 in
theorem gs_deep : EqAt Try.prog 10000 gsT := run_equalIn_deep 9997 3 gsT (by kernel_rfl)
theorem gs_formed (G : Nat → GV) : (Value.agg (gsC G)).formed Try.prog gsT = true := by simp only [Value.formed, Try.underlying106]; rw [gsC_size]; kernel_rfl
set_option maxRecDepth 100000 in
theorem gs_lits : Try.prog.keyLits 3 gsT (gsC fun _ => gZero).toList = some ((List.range 24).map fun _ => Lit.int .i64 0) := by kernel_rfl
/-- Guards that know nothing are equal to the zero value. -/
theorem eql_gs (w : World) : (binOp .eql gsT (.agg (gsC fun _ => gZero)) (.agg (gsC fun _ => gZero))).run Try.prog w = .ok (.bool true) w := by
  obtain ⟨r, hr, hiff⟩ := gs_deep w 3 3 (.agg (gsC fun _ => gZero)) (.agg (gsC fun _ => gZero)) _ _ (gs_formed _) (gs_formed _) gs_lits gs_lits
  rw [run_eql_struct]
  generalize hD : (10000 : Nat) = D at *
  rw [hr, hiff.2 rfl]
  rfl
end Go.Proofs.Ytoohconipcleiaa

/- Guards, plain: warnings do not depend on later events; once warned of, always. -/
namespace Go.Proofs.Ytoohconipcleiaa

theorem evAt_front (l : List Ev) (n i : Nat) (h : i < n) : evAt (l.take n) i = evAt l i := by
  unfold evAt
  rw [List.getD_eq_getElem?_getD, List.getD_eq_getElem?_getD, List.getElem?_take_of_lt h]
theorem gdL_take (l : List Ev) (n : Nat) : ∀ i, i ≤ n → gdL (l.take n) i = gdL l i
  | 0, _ => rfl
  | i + 1, h => by
    show gStep (gdL (l.take n) i) i (evAt (l.take n) i) = gStep (gdL l i) i (evAt l i)
    rw [gdL_take l n i (by omega), evAt_front l n i (by omega)]
theorem gW_step (s : GS) (i : Nat) (e : Ev) : (gStep s i e).W = s.W ∨ (gStep s i e).W = s.W ++ [⟨i, e.o, 0⟩] := by
  unfold gStep
  split
  · dsimp only
    split
    · exact .inr rfl
    · exact .inl rfl
  · exact .inl rfl
theorem gW_split (l : List Ev) (n : Nat) : ∀ m, n ≤ m → ∃ r, (gdL l m).W = (gdL l n).W ++ r ∧ ∀ f ∈ r, (n : Int) ≤ f.k := by
  intro m
  induction m with
  | zero => intro h; obtain rfl : n = 0 := by omega
            exact ⟨[], by simp, by simp⟩
  | succ m ih =>
    intro h
    by_cases e : n = m + 1
    · subst e; exact ⟨[], by simp, by simp⟩
    · obtain ⟨r, h1, h2⟩ := ih (by omega)
      rcases gW_step (gdL l m) m (evAt l m) with h3 | h3
      · exact ⟨r, by show (gStep _ _ _).W = _; rw [h3, h1], h2⟩
      · refine ⟨r ++ [⟨m, (evAt l m).o, 0⟩], by show (gStep _ _ _).W = _; rw [h3, h1, List.append_assoc], fun f hf => ?_⟩
        rcases List.mem_append.1 hf with h4 | h4
        · exact h2 f h4
        · simp at h4; subst h4; simp only; omega
theorem gW_lt (l : List Ev) : ∀ m, ∀ f ∈ (gdL l m).W, 0 ≤ f.k ∧ f.k < m
  | 0 => fun f hf => by cases hf
  | m + 1 => fun f hf => by
    have hf' : f ∈ (gStep (gdL l m) m (evAt l m)).W := hf
    rcases gW_step (gdL l m) m (evAt l m) with h3 | h3
    · rw [h3] at hf'
      have := gW_lt l m f hf'
      omega
    · rw [h3] at hf'
      rcases List.mem_append.1 hf' with h4 | h4
      · have := gW_lt l m f h4
        omega
      · simp at h4; subst h4; simp only; omega
theorem gAcc_dirty {g : GV} (e : Ev) (L : Nat) (h3 : g.st = 3) (h0 : g.lk = 0) : (gAcc g e L).st = 3 ∧ (gAcc g e L).lk = 0 := by
  unfold gAcc
  rw [if_neg (by omega), if_neg (by omega), if_neg (by omega), if_neg (by omega)]
  refine ⟨?_, ?_⟩
  · show (if e.k = 2 then (3 : Int) else g.st) = 3
    split
    · rfl
    · exact h3
  · show g.lk &&& L = 0
    rw [h0, Nat.zero_and]
/-- A variable once warned of stays so, and each access of it since is a warning. -/
theorem gW_again {l : List Ev} (hp : (played l).2.2 = 0) : ∀ m, m ≤ l.length → ∀ f ∈ (gdL l m).W, f.o = 0 ∧ ∃ x : Nat, f.t = x ∧ ((gdL l m).G x).st = 3 ∧ ((gdL l m).G x).lk = 0 ∧
    ∀ i : Nat, f.k < i → i < m → isAcc (evAt l i) = true → (evAt l i).o = x → (⟨i, x, 0⟩ : Ev) ∈ (gdL l m).W
  | 0, _ => fun f hf => by cases hf
  | m + 1, hm => fun f hf => by
    have hE := isEv_iff.2 (ev_at hp (show m < l.length by omega))
    have ho := (isEv_iff.1 hE).2.2.1
    have ih := gW_again hp m (by omega)
    have hu : gdL l (m + 1) = gStep (gdL l m) m (evAt l m) := rfl
    rw [hu] at hf ⊢
    unfold gStep at hf ⊢
    by_cases ha : isAcc (evAt l m) = true
    · rw [if_pos ha] at hf ⊢
      change f ∈ (if gWarn (gAcc ((gdL l m).G (evAt l m).o.toNat) (evAt l m) (lkAt l m)) then (gdL l m).W ++ [⟨m, (evAt l m).o, 0⟩] else (gdL l m).W) at hf
      show f.o = 0 ∧ ∃ x : Nat, f.t = x ∧ (upG (gdL l m).G (evAt l m).o.toNat (gAcc ((gdL l m).G (evAt l m).o.toNat) (evAt l m) (lkAt l m)) x).st = 3 ∧ (upG (gdL l m).G (evAt l m).o.toNat (gAcc ((gdL l m).G (evAt l m).o.toNat) (evAt l m) (lkAt l m)) x).lk = 0 ∧
        ∀ i : Nat, f.k < i → i < m + 1 → isAcc (evAt l i) = true → (evAt l i).o = x → (⟨i, x, 0⟩ : Ev) ∈ (if gWarn (gAcc ((gdL l m).G (evAt l m).o.toNat) (evAt l m) (lkAt l m)) then (gdL l m).W ++ [⟨m, (evAt l m).o, 0⟩] else (gdL l m).W)
      by_cases hold : f ∈ (gdL l m).W
      · obtain ⟨h0, x, hx, h3, h4, h5⟩ := ih f hold
        have hmono : ∀ g : Ev, g ∈ (gdL l m).W → g ∈ (if gWarn (gAcc ((gdL l m).G (evAt l m).o.toNat) (evAt l m) (lkAt l m)) then (gdL l m).W ++ [⟨m, (evAt l m).o, 0⟩] else (gdL l m).W) := fun g hg => by
          split
          · exact List.mem_append_left _ hg
          · exact hg
        refine ⟨h0, x, hx, ?_⟩
        by_cases hy : (evAt l m).o = x
        · have hyn : (evAt l m).o.toNat = x := by omega
          obtain ⟨d1, d2⟩ := gAcc_dirty (evAt l m) (lkAt l m) h3 h4
          rw [hyn]
          unfold upG
          rw [if_pos rfl]
          refine ⟨d1, d2, fun i h6 h7 h8 h9 => ?_⟩
          by_cases hi : i = m
          · subst hi
            rw [if_pos (by unfold gWarn; rw [d1, d2]; rfl), hy]
            exact List.mem_append_right _ (by simp)
          · have := hmono _ (h5 i h6 (by omega) h8 h9)
            rwa [hyn] at this
        · unfold upG
          rw [if_neg (by omega)]
          refine ⟨h3, h4, fun i h6 h7 h8 h9 => ?_⟩
          by_cases hi : i = m
          · subst hi; exact absurd h9 hy
          · exact hmono _ (h5 i h6 (by omega) h8 h9)
      · by_cases hg : gWarn (gAcc ((gdL l m).G (evAt l m).o.toNat) (evAt l m) (lkAt l m)) = true
        · rw [if_pos hg] at hf
          rcases List.mem_append.1 hf with h4 | h4
          · exact absurd h4 hold
          · obtain rfl := List.mem_singleton.1 h4
            refine ⟨rfl, (evAt l m).o.toNat, by show (evAt l m).o = _; omega, ?_⟩
            unfold upG
            rw [if_pos rfl]
            unfold gWarn at hg
            simp only [Bool.and_eq_true, beq_iff_eq] at hg
            refine ⟨hg.1, hg.2, fun i h6 h7 _ _ => ?_⟩
            dsimp only at h6
            omega
        · rw [if_neg hg] at hf
          exact absurd hf hold
    · rw [if_neg ha] at hf ⊢
      obtain ⟨h0, x, hx, h3, h4, h5⟩ := ih f hf
      refine ⟨h0, x, hx, h3, h4, fun i h6 h7 h8 h9 => ?_⟩
      by_cases hi : i = m
      · subst hi; exact absurd h8 ha
      · exact h5 i h6 (by omega) h8 h9
theorem acc_iff {e : Ev} (h : isEv e = true) : isAcc e = true ↔ ¬ e.k > 2 := by
  obtain ⟨_, _, o0, oM⟩ := isEv_iff.1 h
  unfold isAcc
  simp only [Bool.or_eq_true, beq_iff_eq]
  rcases manyOf_pos (k := e.k) (by omega) with h | h | h | h | h | h | h | h <;> omega
theorem gWs_may {l : List Ev} (hm : mayB l = true) : gWs l = (gdL l l.length).W := by
  unfold gWs
  rw [if_pos (by simpa [mayB] using hm)]
end Go.Proofs.Ytoohconipcleiaa
