/- An event moved ahead of those that it is apart from, plain. No program. -/
import Derived.Test.YtdgkedpggmkclaaLea
namespace Go.Proofs.Ytdgkedpggmkclaa

/-- Event j, moved to place k. -/
def mvL (l : List Ev) (j k : Nat) : List Ev := l.take k ++ [eg l j] ++ (l.take j).drop k ++ l.drop (j + 1)
def mvI (j k i : Nat) : Nat := if i < k then i else if i = k then j else if i ≤ j then i - 1 else i
theorem mv_get {l : List Ev} {j k : Nat} (hj : j < l.length) (hk : k ≤ j) (i : Nat) : (mvL l j k)[i]? = l[mvI j k i]? := by
  have h1 : (l.take k).length = k := by simp; omega
  have h2 : ((l.take j).drop k).length = j - k := by simp; omega
  unfold mvL mvI
  by_cases c1 : i < k
  · rw [if_pos c1, List.getElem?_append_left (by simp [h2]; omega), List.getElem?_append_left (by simp; omega), List.getElem?_append_left (by omega), List.getElem?_take, if_pos c1]
  · rw [if_neg c1]
    by_cases c2 : i = k
    · subst c2
      rw [if_pos rfl, List.getElem?_append_left (by simp [h2]; omega), List.getElem?_append_left (by simp; omega), List.getElem?_append_right (by omega), h1, Nat.sub_self, eg_get hj, List.getElem?_eq_getElem hj]
      rfl
    · rw [if_neg c2]
      by_cases c3 : i ≤ j
      · rw [if_pos c3, List.getElem?_append_left (by simp [h2]; omega), List.getElem?_append_right (by simp; omega)]
        rw [show (l.take k ++ [eg l j]).length = k + 1 by simp; omega, List.getElem?_drop, List.getElem?_take, if_pos (by omega)]
        congr 1
        omega
      · rw [if_neg c3, List.getElem?_append_right (by simp [h2]; omega)]
        rw [show (l.take k ++ [eg l j] ++ (l.take j).drop k).length = j + 1 by simp [h2]; omega, List.getElem?_drop]
        congr 1
        omega
theorem mv_len {l : List Ev} {j k : Nat} (hj : j < l.length) (hk : k ≤ j) : (mvL l j k).length = l.length := by
  simp [mvL]; omega
theorem mv_self {l : List Ev} {j : Nat} (hj : j < l.length) : mvL l j j = l := by
  apply opt_ext
  intro i
  rw [mv_get hj (Nat.le_refl _)]
  congr 1
  unfold mvI
  repeat' split
  all_goals omega
theorem mv_sw {l : List Ev} {j k : Nat} (hj : j < l.length) (hk : k + 1 ≤ j) : sw (mvL l j (k + 1)) k = mvL l j k := by
  apply opt_ext
  intro i
  rw [sw_get (by rw [mv_len hj hk]; omega), mv_get hj hk, mv_get hj (by omega)]
  congr 1
  unfold mvI sgx
  repeat' split
  all_goals omega
theorem mv_at {l : List Ev} {j k : Nat} (hj : j < l.length) (hk : k + 1 ≤ j) : eg (mvL l j (k + 1)) k = eg l k ∧ eg (mvL l j (k + 1)) (k + 1) = eg l j := by
  constructor
  · rw [eg_opt, mv_get hj hk, show mvI j (k + 1) k = k by unfold mvI; rw [if_pos (by omega)], ← eg_opt]
  · rw [eg_opt, mv_get hj hk, show mvI j (k + 1) (k + 1) = j by unfold mvI; rw [if_neg (by omega), if_pos rfl], ← eg_opt]
theorem mv_step {l : List Ev} {j k : Nat} (hj : j < l.length) (hk : k + 1 ≤ j) (hA : apartB (eg l k) (eg l j) = true) (h : SwEq l (mvL l j (k + 1))) : SwEq l (mvL l j k) := by
  obtain ⟨e1, e2⟩ := mv_at hj hk
  refine h.trans (.step k (by rw [mv_len hj hk]; omega) (by rw [e1, e2]; exact hA) ?_)
  rw [mv_sw hj hk]
  exact .refl _
end Go.Proofs.Ytdgkedpggmkclaa
