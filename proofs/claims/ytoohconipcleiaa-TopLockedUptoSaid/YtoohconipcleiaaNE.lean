/- Joined texts. -/
import Derived.Lib.SlicesCompact
import Derived.Test.YtoohconipcleiaaNB
import Derived.Test.YtoohconipcleiaaMO

/- What is left of a list of numbers, sorted and each once. No program. -/
namespace Go.Proofs.Ytoohconipcleiaa

/-- Rising, each once. -/
def secL (l : List Int) : List Int := Lib.compact (l.mergeSort fun x y => decide (x ≤ y))
theorem comp_mem (d : Array Int) : ∀ (m : Nat) (x : Int), x ∈ Lib.compactUpTo d m ↔ ∃ j, j < m ∧ d[j]! = x
  | 0, x => by simp [Lib.compactUpTo]
  | m + 1, x => by
    rw [Lib.compactUpTo_succ, List.mem_append, comp_mem d m x]
    by_cases hk : Lib.keeps d m = true
    · rw [if_pos hk, List.mem_singleton]
      constructor
      · rintro (⟨j, h1, h2⟩ | h)
        · exact ⟨j, by omega, h2⟩
        · exact ⟨m, by omega, h.symm⟩
      · rintro ⟨j, h1, h2⟩
        by_cases e : j = m
        · subst e; exact .inr h2.symm
        · exact .inl ⟨j, by omega, h2⟩
    · rw [if_neg hk]
      have hk2 : ¬ m = 0 ∧ d[m]! = d[m - 1]! := by simpa [Lib.keeps] using hk
      constructor
      · rintro (⟨j, h1, h2⟩ | h)
        · exact ⟨j, by omega, h2⟩
        · cases h
      · rintro ⟨j, h1, h2⟩
        left
        by_cases e : j = m
        · subst e; exact ⟨j - 1, by omega, by rw [← hk2.2]; exact h2⟩
        · exact ⟨j, by omega, h2⟩
theorem comp_rises (d : Array Int) : ∀ (m : Nat), (∀ i j, i ≤ j → j < m → d[i]! ≤ d[j]!) → (Lib.compactUpTo d m).Pairwise (· < ·)
  | 0, _ => by simp [Lib.compactUpTo]
  | m + 1, hs => by
    rw [Lib.compactUpTo_succ]
    have ih := comp_rises d m (fun i j h1 h2 => hs i j h1 (by omega))
    by_cases hk : Lib.keeps d m = true
    · rw [if_pos hk, List.pairwise_append]
      refine ⟨ih, by simp, fun a ha b hb => ?_⟩
      rw [List.mem_singleton] at hb
      subst hb
      obtain ⟨j, h1, rfl⟩ := (comp_mem d m a).1 ha
      have hk2 : m = 0 ∨ ¬ d[m]! = d[m - 1]! := by simpa [Lib.keeps] using hk
      have h3 := hs j (m - 1) (by omega) (by omega)
      have h4 := hs (m - 1) m (by omega) (by omega)
      rcases hk2 with e | e
      · omega
      · omega
    · rw [if_neg hk, List.append_nil]
      exact ih
theorem comp_len (d : Array Int) (m : Nat) : (Lib.compactUpTo d m).length ≤ m := by
  unfold Lib.compactUpTo
  rw [List.length_map]
  have := List.length_filter_le (Lib.keeps d) (List.range m)
  simpa using this
theorem mem_secL {l : List Int} {x : Int} : x ∈ secL l ↔ x ∈ l := by
  unfold secL Lib.compact
  rw [comp_mem]
  have hm : x ∈ l ↔ x ∈ l.mergeSort fun x y => decide (x ≤ y) := (List.mem_mergeSort (le := fun x y : Int => decide (x ≤ y))).symm
  rw [hm]
  generalize (l.mergeSort fun x y => decide (x ≤ y)) = s
  rw [List.mem_iff_getElem]
  constructor
  · rintro ⟨j, h1, h2⟩
    exact ⟨j, h1, by rw [← h2]; simp [h1]⟩
  · rintro ⟨j, h1, h2⟩
    exact ⟨j, h1, by rw [← h2]; simp [h1]⟩
theorem secL_rises (l : List Int) : (secL l).Pairwise (· < ·) := by
  unfold secL Lib.compact
  have hs : (l.mergeSort fun x y => decide (x ≤ y)).Pairwise fun x y => decide (x ≤ y) = true :=
    List.pairwise_mergeSort (fun a b c h1 h2 => by simp at h1 h2 ⊢; omega) (fun a b => by simp; omega) l
  generalize (l.mergeSort fun x y => decide (x ≤ y)) = s at *
  refine comp_rises _ _ fun i j h1 h2 => ?_
  have hi : i < s.length := by omega
  by_cases e : i = j
  · subst e; exact Int.le_refl _
  · have := List.pairwise_iff_getElem.1 hs i j hi h2 (by omega)
    simpa [hi, h2] using this
theorem secL_len (l : List Int) : (secL l).length ≤ l.length := by
  unfold secL Lib.compact
  have := comp_len (l.mergeSort fun x y => decide (x ≤ y)).toArray (l.mergeSort fun x y => decide (x ≤ y)).length
  simpa using this
theorem secL_nil {l : List Int} : secL l = [] ↔ l = [] := by
  rw [List.eq_nil_iff_forall_not_mem, List.eq_nil_iff_forall_not_mem]
  exact forall_congr' fun x => not_congr mem_secL
end Go.Proofs.Ytoohconipcleiaa

/- Guards, plain: a lock in common is held at all accesses: no race; and no warning. -/
namespace Go.Proofs.Ytoohconipcleiaa

theorem gStep_H (s : GS) (i : Nat) (e : Ev) : (gStep s i e).H = hStep s.H e := by
  unfold gStep
  split <;> rfl
/-- A lock that a guard's books give a thread is its own. -/
theorem own_bit {l : List Ev} (hp : (played l).2.2 = 0) : ∀ i, i ≤ l.length → ∀ t o : Nat, ((gdL l i).H t).testBit o = true → (stAt l i).owner o = t + 1
  | 0, _ => fun t o h => by
    have h' : Nat.testBit 0 o = true := h
    rw [Nat.zero_testBit] at h'
    cases h'
  | i + 1, hi => fun t o h => by
    have hil : i < l.length := by omega
    have ih := own_bit hp i (by omega)
    have er := err0 ((ok_at hp).1 i hil)
    obtain ⟨t0, _, o0, oM⟩ := ev_at hp hil
    rw [stAt, stFrom_succ _ _ _ hil]
    have hu : (gdL l (i + 1)).H = hStep (gdL l i).H (evAt l i) := gStep_H _ _ _
    rw [hu] at h
    change ∀ t o : Nat, ((gdL l i).H t).testBit o = true → (stFrom St.first l i).owner o = t + 1 at ih
    change _ ∧ _ ∧ _ ∧ ((evAt l i).k = 3 → (stFrom St.first l i).owner (evAt l i).o.toNat = 0) ∧ ((evAt l i).k = 4 → (stFrom St.first l i).owner (evAt l i).o.toNat = (evAt l i).t + 1) ∧ _ at er
    obtain ⟨_, _, _, er3, er4, _⟩ := er
    generalize stFrom St.first l i = s at *
    generalize (gdL l i).H = H at *
    generalize evAt l i = e at *
    unfold hStep at h
    unfold nxt
    by_cases k3 : e.k = 3
    · rw [if_pos k3] at h ⊢
      show updI s.owner e.o.toNat (e.t + 1) o = t + 1
      unfold upH at h
      unfold updI
      have e3 := er3 k3
      by_cases ht : t = e.t.toNat
      · rw [if_pos ht, Nat.testBit_or, Bool.or_eq_true] at h
        by_cases ho : o = e.o.toNat
        · rw [if_pos ho]; omega
        · rw [if_neg ho]
          rcases h with h | h
          · rw [ih _ _ h]; omega
          · unfold bitN at h
            rw [Nat.testBit_two_pow] at h
            simp only [decide_eq_true_eq] at h
            omega
      · rw [if_neg ht] at h
        have := ih _ _ h
        by_cases ho : o = e.o.toNat
        · rw [ho] at this; omega
        · rw [if_neg ho]; exact this
    · rw [if_neg k3] at h ⊢
      by_cases k4 : e.k = 4
      · rw [if_pos k4] at h ⊢
        show updI s.owner e.o.toNat 0 o = t + 1
        unfold upH at h
        unfold updI
        have e4 := er4 k4
        by_cases ht : t = e.t.toNat
        · rw [if_pos ht, Nat.testBit_and, Bool.and_eq_true] at h
          by_cases ho : o = e.o.toNat
          · have h2 := h.2
            unfold bitN at h2
            rw [Nat.testBit_xor, ho, Nat.testBit_two_pow_self] at h2
            have h1 := ih _ _ h.1
            exfalso
            have ho5 : Nat.testBit 31 e.o.toNat = false := by revert h2; cases Nat.testBit 31 e.o.toNat <;> simp
            rw [k4] at oM
            have h5 : e.o < 5 := by simpa [manyOf] using oM
            rcases (show e.o.toNat = 0 ∨ e.o.toNat = 1 ∨ e.o.toNat = 2 ∨ e.o.toNat = 3 ∨ e.o.toNat = 4 by omega) with h6 | h6 | h6 | h6 | h6 <;> rw [h6] at ho5 <;> exact absurd ho5 (by decide)
          · rw [if_neg ho, ih _ _ h.1]; omega
        · rw [if_neg ht] at h
          have := ih _ _ h
          by_cases ho : o = e.o.toNat
          · rw [ho] at this; omega
          · rw [if_neg ho]; exact this
      · rw [if_neg k4] at h ⊢
        have := ih _ _ h
        repeat' split
        all_goals exact this
/-- A lock in common is held at each access. -/
theorem coL_bit {l : List Ev} {x : Int} {o : Nat} : ∀ n, (coL l x n).testBit o = true → ∀ i, i < n → isAcc (evAt l i) = true → (evAt l i).o = x → (lkAt l i).testBit o = true
  | 0, _ => fun i hi => by omega
  | n + 1, h => fun i hi ha hx => by
    unfold coL at h
    by_cases hc : (isAcc (evAt l n) && (evAt l n).o == x) = true
    · rw [if_pos hc, Nat.testBit_and, Bool.and_eq_true] at h
      by_cases e : i = n
      · subst e; exact h.2
      · exact coL_bit n h.1 i (by omega) ha hx
    · rw [if_neg hc] at h
      by_cases e : i = n
      · subst e
        exact absurd (by rw [ha, hx]; simp) hc
      · exact coL_bit n h i (by omega) ha hx
theorem bit_of {n : Nat} (h : n ≠ 0) : ∃ o, n.testBit o = true := by
  refine Classical.byContradiction fun hn => h ?_
  apply Nat.eq_of_testBit_eq
  intro i
  rw [Nat.zero_testBit]
  cases hb : n.testBit i with
  | false => rfl
  | true => exact absurd ⟨i, hb⟩ hn
theorem lkAt_acc {l : List Ev} {i : Nat} (ha : isAcc (evAt l i) = true) : lkAt l i = (gdL l i).H (evAt l i).t.toNat := by
  unfold isAcc at ha
  simp only [Bool.or_eq_true, beq_iff_eq] at ha
  unfold lkAt hStep
  rw [if_neg (by omega), if_neg (by omega)]
/-- Where a lock is in common nothing races. -/
theorem safe_race {l : List Ev} (hp : (played l).2.2 = 0) {x : Int} (h : coL l x l.length ≠ 0) : x ∉ secL ((raceL l).map Rc.v) := by
  intro hm
  obtain ⟨r, hr, hx⟩ := List.mem_map.1 (mem_secL.1 hm)
  obtain ⟨i, j, rfl, hij, hj, hb⟩ := mem_raceL.1 hr
  obtain ⟨a1, a2, ho, hR, _⟩ := raceB_iff.1 hb
  have b1 : isAcc (evAt l i) = true := by rw [isAccR_iff] at a1; unfold isAcc; simpa using a1
  have b2 : isAcc (evAt l j) = true := by rw [isAccR_iff] at a2; unfold isAcc; simpa using a2
  have hxi : (evAt l i).o = x := hx
  obtain ⟨o, hbit⟩ := bit_of h
  have h1 := coL_bit l.length hbit i (by omega) b1 hxi
  have h2 := coL_bit l.length hbit j hj b2 (by rw [← ho]; exact hxi)
  rw [lkAt_acc b1] at h1
  rw [lkAt_acc b2] at h2
  have o1 := own_bit hp i (by omega) _ _ h1
  have o2 := own_bit hp j (by omega) _ _ h2
  have t1 := (ev_at hp (show i < l.length by omega)).1
  have t2 := (ev_at hp hj).1
  have := held_ordered hp hij hj (o := o) (by rw [o1]; omega) (by rw [o2]; omega)
  rw [this] at hR
  cases hR
/-- A variable that is warned of has no lock in common. -/
theorem safe_warn {l : List Ev} (hp : (played l).2.2 = 0) {x : Nat} {f : Ev} (hf : f ∈ (gdL l l.length).W) (hx : f.t = x) : coL l x l.length = 0 := by
  obtain ⟨_, y, hy, _, h0, _⟩ := gW_again hp l.length (Nat.le_refl _) f hf
  obtain rfl : y = x := by omega
  have hs := keeps_sub hp y l.length (Nat.le_refl _)
  rw [h0] at hs
  refine Classical.byContradiction fun hn => ?_
  obtain ⟨o, hb⟩ := bit_of hn
  have := hs o hb
  rw [Nat.zero_testBit] at this
  cases this
end Go.Proofs.Ytoohconipcleiaa
