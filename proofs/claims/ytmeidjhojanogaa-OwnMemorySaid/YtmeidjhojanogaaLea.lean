/- Least traces, plain: a swap does not change the least trace; the least trace is reached by swaps; it is sorted. No program. -/
import Derived.Test.YtmeidjhojanogaaSwp
namespace Go.Proofs.Ytmeidjhojanogaa

def eg (l : List Ev) (i : Nat) : Ev := l.getD i ⟨0, 0, 0⟩
theorem eg_get {l : List Ev} {i : Nat} (h : i < l.length) : eg l i = l[i] := by simp [eg, List.getD, h]
theorem eg_opt (l : List Ev) (i : Nat) : eg l i = (l[i]?).getD ⟨0, 0, 0⟩ := by simp [eg, List.getD]
/-- Apart from all ahead of it. -/
def Free (l : List Ev) (i : Nat) : Prop := ∀ j, j < i → apartB (eg l j) (eg l i) = true
def freeB (l : List Ev) (i : Nat) : Bool := (l.take i).all fun x => apartB x (eg l i)
theorem freeB_iff {l : List Ev} {i : Nat} (h : i < l.length) : freeB l i = true ↔ Free l i := by
  unfold freeB Free
  rw [List.all_eq_true]
  constructor
  · intro h1 j hj
    refine h1 _ ?_
    rw [eg_get (by omega)]
    exact List.mem_take_iff_getElem.2 ⟨j, by omega, rfl⟩
  · intro h1 x hx
    obtain ⟨j, hj, rfl⟩ := List.mem_take_iff_getElem.1 hx
    have := h1 j (by omega)
    rwa [eg_get (by omega)] at this
/-- The best so far. -/
def bestTo (l : List Ev) : Nat → Option Nat
  | 0 => none
  | i + 1 => if freeB l i && (match bestTo l i with | none => true | some b => decide ((eg l i).t < (eg l b).t)) then some i else bestTo l i
structure Best (l : List Ev) (b : Nat) : Prop where
  lt : b < l.length
  free : Free l b
  least : ∀ j, j < l.length → Free l j → j ≠ b → (eg l b).t < (eg l j).t
theorem free_ne {l : List Ev} {i j : Nat} (hi : Free l i) (hj : Free l j) (h : i ≠ j) : (eg l i).t ≠ (eg l j).t := by
  rcases Nat.lt_or_gt_of_ne h with h1 | h1
  · exact (apartB_iff.1 (hj i h1)).1
  · exact fun e => (apartB_iff.1 (hi j h1)).1 e.symm
theorem bestTo_spec {l : List Ev} : ∀ i, i ≤ l.length → (bestTo l i = none ∧ ∀ j, j < i → ¬ Free l j) ∨ ∃ b, bestTo l i = some b ∧ b < i ∧ Free l b ∧ ∀ j, j < i → Free l j → j ≠ b → (eg l b).t < (eg l j).t
  | 0, _ => .inl ⟨rfl, fun j hj => by omega⟩
  | i + 1, h => by
    have ih := bestTo_spec (l := l) i (by omega)
    by_cases hf : Free l i
    · have hfb := (freeB_iff (show i < l.length by omega)).2 hf
      right
      rcases ih with ⟨h1, h2⟩ | ⟨b, h1, h2, h3, h4⟩
      · refine ⟨i, by simp [bestTo, hfb, h1], by omega, hf, fun j hj hfj hne => ?_⟩
        exact absurd hfj (h2 j (by omega))
      · have hne := free_ne hf h3 (by omega)
        by_cases ht : (eg l i).t < (eg l b).t
        · refine ⟨i, by simp [bestTo, hfb, h1, ht], by omega, hf, fun j hj hfj hne2 => ?_⟩
          by_cases e : j = b
          · rw [e]; exact ht
          · have := h4 j (by omega) hfj e
            omega
        · refine ⟨b, by simp [bestTo, hfb, h1, ht], by omega, h3, fun j hj hfj hne2 => ?_⟩
          by_cases e : j = i
          · rw [e]; omega
          · exact h4 j (by omega) hfj hne2
    · have hfb : freeB l i = false := by
        rw [Bool.eq_false_iff]
        exact fun e => hf ((freeB_iff (by omega)).1 e)
      rcases ih with ⟨h1, h2⟩ | ⟨b, h1, h2, h3, h4⟩
      · refine .inl ⟨by simp [bestTo, hfb, h1], fun j hj => ?_⟩
        by_cases e : j = i
        · rw [e]; exact hf
        · exact h2 j (by omega)
      · refine .inr ⟨b, by simp [bestTo, hfb, h1], by omega, h3, fun j hj hfj hne => ?_⟩
        by_cases e : j = i
        · rw [e] at hfj; exact absurd hfj hf
        · exact h4 j (by omega) hfj hne
def best (l : List Ev) : Nat := (bestTo l l.length).getD 0
theorem best_is {l : List Ev} (h : 0 < l.length) : bestTo l l.length = some (best l) ∧ Best l (best l) := by
  rcases bestTo_spec (l := l) l.length (Nat.le_refl _) with ⟨_, h2⟩ | ⟨b, h1, h2, h3, h4⟩
  · exact absurd (fun j hj => by omega) (h2 0 h)
  · have e : best l = b := by unfold best; rw [h1]; rfl
    rw [e]
    exact ⟨h1, h2, h3, h4⟩
theorem Best.same {l : List Ev} {a b : Nat} (h : Best l a) (k : Best l b) : a = b := by
  by_cases e : a = b
  · exact e
  · have h1 := h.least b k.lt k.free (fun e2 => e e2.symm)
    have h2 := k.least a h.lt h.free e
    omega
def leastN : Nat → List Ev → List Ev
  | 0, _ => []
  | n + 1, l => eg l (best l) :: leastN n (l.eraseIdx (best l))
/-- The least trace. -/
def leastL (l : List Ev) : List Ev := leastN l.length l
theorem leastN_len : ∀ n l, (leastN n l).length = n
  | 0, _ => rfl
  | n + 1, l => by simp only [leastN, List.length_cons, leastN_len]
theorem erase_len {l : List Ev} {b : Nat} (h : b < l.length) : (l.eraseIdx b).length = l.length - 1 := by
  rw [List.length_eraseIdx, if_pos h]
/-- Where a place goes. -/
def sgx (k i : Nat) : Nat := if i = k then k + 1 else if i = k + 1 then k else i
theorem sw_get {l : List Ev} {k : Nat} (h : k + 1 < l.length) (i : Nat) : (sw l k)[i]? = l[sgx k i]? := by
  unfold sw sgx
  rw [List.getElem?_set, List.getElem?_set]
  by_cases e1 : i = k
  · subst e1
    rw [if_neg (by omega), if_pos rfl, if_pos rfl]
    simp [List.getD, h, show i < l.length by omega]
  · by_cases e2 : i = k + 1
    · subst e2
      rw [if_pos rfl, if_pos (by rw [List.length_set]; exact h), if_neg (by omega), if_pos rfl]
      simp [List.getD, show k < l.length by omega]
    · rw [if_neg (by omega), if_neg (by omega), if_neg e1, if_neg e2]
theorem eg_sw {l : List Ev} {k : Nat} (h : k + 1 < l.length) (i : Nat) : eg (sw l k) i = eg l (sgx k i) := by
  rw [eg_opt, eg_opt, sw_get h]
theorem sgx_sgx (k i : Nat) : sgx k (sgx k i) = i := by
  unfold sgx
  repeat' split
  all_goals omega
theorem free_sw {l : List Ev} {k : Nat} (h : k + 1 < l.length) (hA : apartB (eg l k) (eg l (k + 1)) = true) {i : Nat} (hi : Free l i) : Free (sw l k) (sgx k i) := by
  intro j hj
  rw [eg_sw h, eg_sw h, sgx_sgx]
  by_cases hlt : sgx k j < i
  · exact hi _ hlt
  · have hik : i = k ∧ j = k := by
      unfold sgx at hj hlt
      repeat' split at hj
      all_goals (repeat' split at hlt)
      all_goals omega
    obtain ⟨rfl, rfl⟩ := hik
    have : sgx j j = j + 1 := by simp [sgx]
    rw [this, apartB_symm]
    exact hA
theorem apart_sw {l : List Ev} {k : Nat} (h : k + 1 < l.length) (hA : apartB (eg l k) (eg l (k + 1)) = true) : apartB (eg (sw l k) k) (eg (sw l k) (k + 1)) = true := by
  rw [eg_sw h, eg_sw h]
  have e1 : sgx k k = k + 1 := by simp [sgx]
  have e2 : sgx k (k + 1) = k := by simp [sgx]
  rw [e1, e2, apartB_symm]
  exact hA
theorem best_sw {l : List Ev} {k : Nat} (h : k + 1 < l.length) (hA : apartB (eg l k) (eg l (k + 1)) = true) {b : Nat} (hb : Best l b) : Best (sw l k) (sgx k b) := by
  refine ⟨?_, free_sw h hA hb.free, fun j hj hf hne => ?_⟩
  · rw [sw_len]
    have := hb.lt
    unfold sgx
    repeat' split
    all_goals omega
  · have h1 := free_sw (l := sw l k) (by rw [sw_len]; exact h) (apart_sw h hA) hf
    rw [sw_sw h] at h1
    rw [eg_sw h, eg_sw h, sgx_sgx]
    refine hb.least _ ?_ h1 (fun e => hne ?_)
    · rw [sw_len] at hj
      unfold sgx
      repeat' split
      all_goals omega
    · rw [← e, sgx_sgx]
theorem opt_ext {l m : List Ev} (h : ∀ i : Nat, l[i]? = m[i]?) : l = m := List.ext_getElem? h
theorem sgx_cases (k i : Nat) : (i = k ∧ sgx k i = k + 1) ∨ (i = k + 1 ∧ sgx k i = k) ∨ (i ≠ k ∧ i ≠ k + 1 ∧ sgx k i = i) := by
  unfold sgx
  by_cases e1 : i = k
  · exact .inl ⟨e1, if_pos e1⟩
  · by_cases e2 : i = k + 1
    · exact .inr (.inl ⟨e2, by rw [if_neg e1, if_pos e2]⟩)
    · exact .inr (.inr ⟨e1, e2, by rw [if_neg e1, if_neg e2]⟩)
theorem opt_at {l : List Ev} {i j : Nat} (h : i = j) : l[i]? = l[j]? := by rw [h]
/-- What is left behind the best. -/
theorem erase_sw {l : List Ev} {k : Nat} (h : k + 1 < l.length) {b : Nat} (hb : b < l.length) :
    (sw l k).eraseIdx (sgx k b) = l.eraseIdx b ∨ ∃ k', k' + 1 < (l.eraseIdx b).length ∧ eg (l.eraseIdx b) k' = eg l k ∧ eg (l.eraseIdx b) (k' + 1) = eg l (k + 1) ∧ (sw l k).eraseIdx (sgx k b) = sw (l.eraseIdx b) k' := by
  have cb := sgx_cases k b
  by_cases e1 : b = k ∨ b = k + 1
  · left
    apply opt_ext
    intro i
    rw [List.getElem?_eraseIdx, List.getElem?_eraseIdx, sw_get h, sw_get h]
    have c1 := sgx_cases k i
    have c2 := sgx_cases k (i + 1)
    generalize sgx k i = x at *
    generalize sgx k (i + 1) = y at *
    generalize sgx k b = z at *
    split <;> split
    all_goals exact opt_at (by omega)
  · right
    have el := erase_len hb
    have eb : sgx k b = b := by omega
    rw [eb]
    have hk' : ∃ k', (b < k ∧ k' + 1 = k ∨ k + 1 < b ∧ k' = k) := by
      by_cases c : b < k
      · exact ⟨k - 1, .inl ⟨c, by omega⟩⟩
      · exact ⟨k, .inr ⟨by omega, rfl⟩⟩
    obtain ⟨k', hk'⟩ := hk'
    have hk2 : k' + 1 < (l.eraseIdx b).length := by omega
    refine ⟨k', hk2, ?_, ?_, ?_⟩
    · rw [eg_opt, eg_opt, List.getElem?_eraseIdx]
      split
      · rw [opt_at (show k' = k by omega)]
      · rw [opt_at (show k' + 1 = k by omega)]
    · rw [eg_opt, eg_opt, List.getElem?_eraseIdx]
      split
      · rw [opt_at (show k' + 1 = k + 1 by omega)]
      · rw [opt_at (show k' + 1 + 1 = k + 1 by omega)]
    · apply opt_ext
      intro i
      rw [sw_get hk2, List.getElem?_eraseIdx, List.getElem?_eraseIdx, sw_get h, sw_get h]
      have c1 := sgx_cases k i
      have c2 := sgx_cases k (i + 1)
      have c3 := sgx_cases k' i
      generalize sgx k i = x at *
      generalize sgx k (i + 1) = y at *
      generalize sgx k' i = z at *
      split <;> split
      all_goals exact opt_at (by omega)
/-- A swap does not change the least trace. -/
theorem least_sw : ∀ (n : Nat) (l : List Ev) (k : Nat), l.length = n → k + 1 < n → apartB (eg l k) (eg l (k + 1)) = true → leastN n (sw l k) = leastN n l
  | 0, _, _, _, h, _ => by omega
  | n + 1, l, k, hl, hk, hA => by
    have h : k + 1 < l.length := by omega
    obtain ⟨_, hb⟩ := best_is (l := l) (by omega)
    obtain ⟨_, hb2⟩ := best_is (l := sw l k) (by rw [sw_len]; omega)
    have e := hb2.same (best_sw h hA hb)
    have hlen := erase_len hb.lt
    simp only [leastN]
    rw [e, eg_sw h, sgx_sgx]
    congr 1
    rcases erase_sw h hb.lt with h1 | ⟨k', h1, h2, h3, h4⟩
    · rw [h1]
    · rw [h4]
      exact least_sw n _ k' (by omega) (by omega) (by rw [h2, h3]; exact hA)
/-- Reached by swaps. -/
inductive SwEq : List Ev → List Ev → Prop
  | refl (l : List Ev) : SwEq l l
  | step {l m : List Ev} (k : Nat) (h : k + 1 < l.length) (hA : apartB (eg l k) (eg l (k + 1)) = true) (t : SwEq (sw l k) m) : SwEq l m
theorem SwEq.trans {l m n : List Ev} (h : SwEq l m) (k : SwEq m n) : SwEq l n := by
  induction h with
  | refl l => exact k
  | step i h1 h2 _ ih => exact .step i h1 h2 (ih k)
theorem SwEq.len {l m : List Ev} (h : SwEq l m) : m.length = l.length := by
  induction h with
  | refl l => rfl
  | step i h1 h2 _ ih => rw [ih, sw_len]
theorem SwEq.least {l m : List Ev} (h : SwEq l m) : leastL m = leastL l := by
  induction h with
  | refl l => rfl
  | @step l m i h1 h2 _ ih =>
    rw [ih]
    unfold leastL
    rw [sw_len]
    exact least_sw _ l i rfl h1 h2
theorem SwEq.ok {l m : List Ev} (h : SwEq l m) : (played l).2.2 = 0 → (played m).2.2 = 0 := by
  induction h with
  | refl l => exact id
  | @step l m i h1 h2 _ ih =>
    intro hp
    exact ih (played_sw h1 (by rw [← eg_get, ← eg_get]; exact h2) hp).1
theorem sw_cons (e : Ev) (l : List Ev) {k : Nat} (h : k + 1 < l.length) : sw (e :: l) (k + 1) = e :: sw l k := by
  apply opt_ext
  intro i
  rw [sw_get (by simp; omega)]
  unfold sgx
  cases i with
  | zero => rw [if_neg (by omega), if_neg (by omega)]; rfl
  | succ i =>
    rw [List.getElem?_cons_succ, sw_get h]
    unfold sgx
    by_cases c1 : i = k
    · rw [if_pos (by omega), if_pos c1]; rfl
    · by_cases c2 : i = k + 1
      · rw [if_neg (by omega), if_pos (by omega), if_neg c1, if_pos c2]; rfl
      · rw [if_neg (by omega), if_neg (by omega), if_neg c1, if_neg c2]; rfl
theorem SwEq.cons (e : Ev) {l m : List Ev} (h : SwEq l m) : SwEq (e :: l) (e :: m) := by
  induction h with
  | refl l => exact .refl _
  | @step l m i h1 h2 _ ih =>
    refine .step (i + 1) (by simp; omega) ?_ (by rw [sw_cons e l h1]; exact ih)
    exact h2
/-- What is free goes to the front. -/
theorem to_front : ∀ (b : Nat) (l : List Ev), b < l.length → Free l b → SwEq l (eg l b :: l.eraseIdx b)
  | 0, l, h, _ => by
    cases l with
    | nil => simp at h
    | cons e l => exact .refl _
  | b + 1, l, h, hf => by
    have hA := hf b (by omega)
    refine .step b h hA ?_
    have e1 : eg (sw l b) b = eg l (b + 1) := by rw [eg_sw h]; simp [sgx]
    have h1 := to_front b (sw l b) (by rw [sw_len]; omega) (fun j hj => by
      rw [e1, eg_sw h]
      have : sgx b j = j := by unfold sgx; rw [if_neg (by omega), if_neg (by omega)]
      rw [this]
      exact hf j (by omega))
    rw [e1] at h1
    have e2 : (sw l b).eraseIdx b = l.eraseIdx (b + 1) := by
      apply opt_ext
      intro i
      rw [List.getElem?_eraseIdx, List.getElem?_eraseIdx, sw_get h, sw_get h]
      have c1 := sgx_cases b i
      have c2 := sgx_cases b (i + 1)
      generalize sgx b i = x at *
      generalize sgx b (i + 1) = y at *
      split <;> split
      all_goals exact opt_at (by omega)
    rw [e2] at h1
    exact h1
theorem to_least : ∀ (n : Nat) (l : List Ev), l.length = n → SwEq l (leastN n l)
  | 0, l, h => by
    obtain rfl := List.eq_nil_of_length_eq_zero h
    exact .refl _
  | n + 1, l, h => by
    obtain ⟨_, hb⟩ := best_is (l := l) (by omega)
    have hlen := erase_len hb.lt
    exact (to_front _ l hb.lt hb.free).trans ((to_least n _ (by omega)).cons _)
/-- No two neighbours that are apart, the later one of a lesser thread. -/
theorem least_sorted : ∀ (n : Nat) (l : List Ev) (i : Nat), l.length = n → i + 1 < n → ¬ (apartB (eg (leastN n l) i) (eg (leastN n l) (i + 1)) = true ∧ (eg (leastN n l) (i + 1)).t < (eg (leastN n l) i).t)
  | 0, _, _, _, h => by omega
  | n + 1, l, i + 1, hl, hi => by
    obtain ⟨_, hb⟩ := best_is (l := l) (by omega)
    have hlen := erase_len hb.lt
    exact least_sorted n _ i (by omega) (by omega)
  | n + 2, l, 0, hl, _ => by
    obtain ⟨_, hb⟩ := best_is (l := l) (by omega)
    have hlen := erase_len hb.lt
    obtain ⟨_, hb2⟩ := best_is (l := l.eraseIdx (best l)) (by omega)
    rintro ⟨h1, h2⟩
    have e0 : eg (leastN (n + 2) l) 0 = eg l (best l) := rfl
    have e1 : eg (leastN (n + 2) l) (0 + 1) = eg (l.eraseIdx (best l)) (best (l.eraseIdx (best l))) := rfl
    rw [e0, e1] at h1 h2
    generalize best (l.eraseIdx (best l)) = c at *
    generalize best l = b at *
    have eg2 : ∀ i, eg (l.eraseIdx b) i = eg l (if i < b then i else i + 1) := fun i => by
      rw [eg_opt, eg_opt, List.getElem?_eraseIdx]
      split <;> rfl
    have hf : Free l (if c < b then c else c + 1) := by
      intro j hj
      rw [← eg2]
      by_cases e : j = b
      · rw [e]; exact h1
      · by_cases hjb : j < b
        · have hjc : j < c := by split at hj <;> omega
          have := hb2.free j hjc
          rwa [eg2 j, if_pos hjb] at this
        · have hjc : j - 1 < c := by split at hj <;> omega
          have := hb2.free (j - 1) hjc
          rwa [eg2 (j - 1), if_neg (by omega), show j - 1 + 1 = j by omega] at this
    have hlt := hb2.lt
    have := hb.least _ (by split <;> omega) hf (by split <;> omega)
    rw [← eg2] at this
    omega
theorem leastL_same (l : List Ev) : leastL (leastL l) = leastL l := (to_least _ l rfl).least
end Go.Proofs.Ytmeidjhojanogaa
