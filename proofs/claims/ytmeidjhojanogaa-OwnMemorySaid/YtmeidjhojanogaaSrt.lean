/- What is left of a list of numbers, sorted and each once. No program. -/
import Derived.Lib.SlicesCompact
namespace Go.Proofs.Ytmeidjhojanogaa

/-- Rising, each once. -/
def secL (l : List Int) : List Int := Lib.compact (l.mergeSort fun x y => decide (x ≤ y))
theorem comp_mem (d : Array Int) : ∀ (m : Nat) (x : Int), x ∈ Lib.compactUpTo d m ↔ ∃ j, j < m ∧ d[j]! = x
  | 0, x => by simp [Lib.compactUpTo]
  | m + 1, x => by
    rw [Lib.compactUpTo_succ, List.mem_append, comp_mem d m x]
    by_cases hk : Lib.keeps d m = true
    · rw [if_pos hk, List.mem_singleton]
      constructor
      · rintro (⟨j, h1, h2⟩ | h)
        · exact ⟨j, by omega, h2⟩
        · exact ⟨m, by omega, h.symm⟩
      · rintro ⟨j, h1, h2⟩
        by_cases e : j = m
        · subst e; exact .inr h2.symm
        · exact .inl ⟨j, by omega, h2⟩
    · rw [if_neg hk]
      have hk2 : ¬ m = 0 ∧ d[m]! = d[m - 1]! := by simpa [Lib.keeps] using hk
      constructor
      · rintro (⟨j, h1, h2⟩ | h)
        · exact ⟨j, by omega, h2⟩
        · cases h
      · rintro ⟨j, h1, h2⟩
        left
        by_cases e : j = m
        · subst e; exact ⟨j - 1, by omega, by rw [← hk2.2]; exact h2⟩
        · exact ⟨j, by omega, h2⟩
theorem comp_rises (d : Array Int) : ∀ (m : Nat), (∀ i j, i ≤ j → j < m → d[i]! ≤ d[j]!) → (Lib.compactUpTo d m).Pairwise (· < ·)
  | 0, _ => by simp [Lib.compactUpTo]
  | m + 1, hs => by
    rw [Lib.compactUpTo_succ]
    have ih := comp_rises d m (fun i j h1 h2 => hs i j h1 (by omega))
    by_cases hk : Lib.keeps d m = true
    · rw [if_pos hk, List.pairwise_append]
      refine ⟨ih, by simp, fun a ha b hb => ?_⟩
      rw [List.mem_singleton] at hb
      subst hb
      obtain ⟨j, h1, rfl⟩ := (comp_mem d m a).1 ha
      have hk2 : m = 0 ∨ ¬ d[m]! = d[m - 1]! := by simpa [Lib.keeps] using hk
      have h3 := hs j (m - 1) (by omega) (by omega)
      have h4 := hs (m - 1) m (by omega) (by omega)
      rcases hk2 with e | e
      · omega
      · omega
    · rw [if_neg hk, List.append_nil]
      exact ih
theorem comp_len (d : Array Int) (m : Nat) : (Lib.compactUpTo d m).length ≤ m := by
  unfold Lib.compactUpTo
  rw [List.length_map]
  have := List.length_filter_le (Lib.keeps d) (List.range m)
  simpa using this
theorem mem_secL {l : List Int} {x : Int} : x ∈ secL l ↔ x ∈ l := by
  unfold secL Lib.compact
  rw [comp_mem]
  have hm : x ∈ l ↔ x ∈ l.mergeSort fun x y => decide (x ≤ y) := (List.mem_mergeSort (le := fun x y : Int => decide (x ≤ y))).symm
  rw [hm]
  generalize (l.mergeSort fun x y => decide (x ≤ y)) = s
  rw [List.mem_iff_getElem]
  constructor
  · rintro ⟨j, h1, h2⟩
    exact ⟨j, h1, by rw [← h2]; simp [h1]⟩
  · rintro ⟨j, h1, h2⟩
    exact ⟨j, h1, by rw [← h2]; simp [h1]⟩
theorem secL_rises (l : List Int) : (secL l).Pairwise (· < ·) := by
  unfold secL Lib.compact
  have hs : (l.mergeSort fun x y => decide (x ≤ y)).Pairwise fun x y => decide (x ≤ y) = true :=
    List.pairwise_mergeSort (fun a b c h1 h2 => by simp at h1 h2 ⊢; omega) (fun a b => by simp; omega) l
  generalize (l.mergeSort fun x y => decide (x ≤ y)) = s at *
  refine comp_rises _ _ fun i j h1 h2 => ?_
  have hi : i < s.length := by omega
  by_cases e : i = j
  · subst e; exact Int.le_refl _
  · have := List.pairwise_iff_getElem.1 hs i j hi h2 (by omega)
    simpa [hi, h2] using this
theorem secL_len (l : List Int) : (secL l).length ≤ l.length := by
  unfold secL Lib.compact
  have := comp_len (l.mergeSort fun x y => decide (x ≤ y)).toArray (l.mergeSort fun x y => decide (x ≤ y)).length
  simpa using this
theorem secL_nil {l : List Int} : secL l = [] ↔ l = [] := by
  rw [List.eq_nil_iff_forall_not_mem, List.eq_nil_iff_forall_not_mem]
  exact forall_congr' fun x => not_congr mem_secL
end Go.Proofs.Ytmeidjhojanogaa
