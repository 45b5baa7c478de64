/- What pack.Read reads, plain. -/
import Derived.Test.YtmeidjhojanogaaDoorPkC
namespace Go.Proofs.YtmeidjhojanogaaDoor

def sum2 (B : List Int) : List Int := [sumL B / 256 % 256, sumL B % 256]
def evI (B : List Int) (k : Nat) : Ev := ⟨B.getD (2 + 2 * k) 0 % 8 + 1, B.getD (2 + 2 * k) 0 / 8, B.getD (3 + 2 * k) 0⟩
/-- The events of a body. -/
def outB (B : List Int) (n : Nat) : List Ev := (List.range n).map (evI B)
theorem outB_len (B : List Int) (n : Nat) : (outB B n).length = n := by simp [outB]
theorem outB_succ (B : List Int) (n : Nat) : outB B (n + 1) = outB B n ++ [evI B n] := by simp [outB, List.range_succ]
def bodyOf (L : List Int) : List Int := L.take (L.length - 2)
def outOf (L : List Int) : List Ev := outB (bodyOf L) ((L.length - 4) / 2)
/-- What Read yields: the events, the fault. -/
def readV (L : List Int) : List Ev × Int :=
  if L.length < 4 then ([], 4)
  else if bodyOf L ++ sum2 (bodyOf L) ≠ L then ([], 6)
  else if (played (outOf L)).2.2 = 0 ∧ packL (outOf L) = L then (outOf L, 0) else ([], 5)
theorem readV_ok {L : List Int} (h : (readV L).2 = 0) : (played (readV L).1).2.2 = 0 ∧ packL (readV L).1 = L := by
  unfold readV at h ⊢
  split at h
  · simp at h
  · split at h
    · simp at h
    · split at h
      · rename_i h1 h2 h3
        rw [if_neg h1, if_neg h2, if_pos h3]
        exact h3
      · simp at h
theorem readV_no {L : List Int} (h : (readV L).2 ≠ 0) : (readV L).1 = [] := by
  unfold readV at h ⊢
  split
  · rfl
  · split
    · rfl
    · split
      · rename_i h1 h2 h3
        rw [if_neg h1, if_neg h2, if_pos h3] at h
        exact absurd rfl h
      · rfl
theorem packL_len (l : List Ev) : (packL l).length = 4 + 2 * l.length := by
  simp [packL, bodyL_len]
  omega
theorem body_pack (l : List Ev) : bodyOf (packL l) = bodyL l := by
  unfold bodyOf
  rw [packL_len, packL, show 4 + 2 * l.length - 2 = (bodyL l).length by rw [bodyL_len]; omega, List.take_left]
theorem flat_get (l : List Ev) : ∀ (k : Nat) (h : k < l.length), (l.flatMap evB).getD (2 * k) 0 = l[k].t * 8 + (l[k].k - 1) ∧ (l.flatMap evB).getD (2 * k + 1) 0 = l[k].o := by
  induction l with
  | nil => intro k h; simp at h
  | cons e l ih =>
    intro k h
    have hc : (e :: l).flatMap evB = (e.t * 8 + (e.k - 1)) :: e.o :: l.flatMap evB := rfl
    cases k with
    | zero => rw [hc]; simp
    | succ k =>
      obtain ⟨h1, h2⟩ := ih k (by simpa using h)
      rw [hc, show 2 * (k + 1) = 2 * k + 1 + 1 by omega]
      simp only [List.getD_cons_succ, List.getElem_cons_succ]
      exact ⟨h1, h2⟩
theorem evI_body {l : List Ev} (hev : ∀ e ∈ l, isEv e = true) {k : Nat} (h : k < l.length) : evI (bodyL l) k = l[k] := by
  obtain ⟨h1, h2⟩ := flat_get l k h
  have hb : bodyL l = 68 :: (l.length : Int) :: l.flatMap evB := rfl
  have e1 : (bodyL l).getD (2 + 2 * k) 0 = l[k].t * 8 + (l[k].k - 1) := by
    rw [hb, show 2 + 2 * k = 2 * k + 1 + 1 by omega]
    simpa only [List.getD_cons_succ] using h1
  have e2 : (bodyL l).getD (3 + 2 * k) 0 = l[k].o := by
    rw [hb, show 3 + 2 * k = 2 * k + 1 + 1 + 1 by omega]
    simpa only [List.getD_cons_succ] using h2
  obtain ⟨x1, x2, x3, x4⟩ := isEv_iff.1 (hev _ (List.getElem_mem h))
  have x6 := manyOf_pos (k := l[k].k) (by omega)
  unfold evI
  rw [e1, e2]
  generalize l[k] = x at *
  obtain ⟨K, T, O⟩ := x
  simp only at *
  have a1 : (T * 8 + (K - 1)) % 8 + 1 = K := by omega
  have a2 : (T * 8 + (K - 1)) / 8 = T := by omega
  rw [a1, a2]
theorem out_pack {l : List Ev} (hev : ∀ e ∈ l, isEv e = true) : outOf (packL l) = l := by
  unfold outOf
  rw [body_pack, packL_len, show (4 + 2 * l.length - 4) / 2 = l.length by omega]
  apply List.ext_getElem
  · exact outB_len _ _
  · intro i h1 h2
    simp only [outB, List.getElem_map, List.getElem_range]
    exact evI_body hev h2
/-- A packed trace is read. -/
theorem read_pack {l : List Ev} (h : (played l).2.2 = 0) : readV (packL l) = (l, 0) := by
  obtain ⟨_, hev⟩ := played_evs h
  unfold readV
  rw [if_neg (by rw [packL_len]; omega), body_pack, if_neg (by intro hn; exact hn rfl), out_pack hev, if_pos ⟨h, rfl⟩]
theorem sumL_cons (x : Int) (l : List Int) : sumL (x :: l) = x + sumL l := by
  unfold sumL
  rw [List.foldl_cons, foldl_add]
  unfold sumL
  omega
theorem sumL_set (c : Int) : ∀ (l : List Int) (i : Nat) (h : i < l.length), sumL (l.set i c) = sumL l + (c - l[i])
  | [], i, h => by simp at h
  | x :: l, 0, _ => by simp [sumL_cons]; omega
  | x :: l, i + 1, h => by
    have := sumL_set c l i (by simpa using h)
    simp only [List.set_cons_succ, sumL_cons, List.getElem_cons_succ]
    omega
/-- A byte that is another one is told. -/
theorem read_turn {l : List Ev} (h : (played l).2.2 = 0) {i : Nat} (hi : i < (packL l).length) {c : Int} (hc : 0 ≤ c ∧ c ≤ 255) (hne : c ≠ (packL l)[i]) : readV ((packL l).set i c) = ([], 6) := by
  obtain ⟨hl80, hev⟩ := played_evs h
  have hrng := body_rng hev hl80
  have hlen := packL_len l
  have hbl := bodyL_len l
  unfold readV
  rw [if_neg (by rw [List.length_set]; omega), if_pos]
  intro he
  have hb : bodyOf ((packL l).set i c) = (bodyL l).set i c := by
    unfold bodyOf
    rw [List.length_set, hlen, packL, List.set_append]
    split
    · rw [show 4 + 2 * l.length - 2 = ((bodyL l).set i c).length by rw [List.length_set]; omega, List.take_left]
    · rw [show 4 + 2 * l.length - 2 = (bodyL l).length by omega, List.take_left, List.set_eq_of_length_le (by omega)]
  rw [hb] at he
  by_cases hlt : i < (bodyL l).length
  · have h1 : (packL l).set i c = (bodyL l).set i c ++ sum2 (bodyL l) := by
      unfold packL
      rw [List.set_append, if_pos hlt]
      rfl
    rw [h1] at he
    have h2 := (List.append_inj he rfl).2
    have h3 := sumL_set c (bodyL l) i hlt
    have h4 := sumL_bd (bodyL l) hrng
    have h5 := sumL_bd ((bodyL l).set i c) (fun n hn => by
      rcases List.mem_or_eq_of_mem_set hn with h | rfl
      · exact hrng n h
      · exact hc)
    rw [List.length_set] at h5
    simp only [sum2, List.cons.injEq, and_true] at h2
    have h6 : (packL l)[i] = (bodyL l)[i] := by
      simp only [packL]
      rw [List.getElem_append_left hlt]
    rw [h6] at hne
    generalize (bodyL l)[i] = x at *
    generalize sumL ((bodyL l).set i c) = A at *
    generalize sumL (bodyL l) = B at *
    omega
  · rw [List.set_eq_of_length_le (by omega)] at he
    have h1 : (packL l)[i] = ((packL l).set i c)[i]'(by rw [List.length_set]; exact hi) := by
      simp only [← he]
      rfl
    rw [List.getElem_set_self] at h1
    exact hne h1.symm
/-- What is cut off is told. -/
theorem read_cut {l : List Ev} {n : Nat} (hn : n < (packL l).length) : (readV ((packL l).take n)).2 ≠ 0 := by
  intro h
  have h4 : ¬ ((packL l).take n).length < 4 := by
    intro h4
    unfold readV at h
    rw [if_pos h4] at h
    simp at h
  obtain ⟨_, h2⟩ := readV_ok h
  generalize (readV ((packL l).take n)).1 = m at *
  have hl := congrArg List.length h2
  have hlen := packL_len l
  rw [packL_len, List.length_take] at hl
  rw [List.length_take] at h4
  have e1 : (packL m)[1]? = some (m.length : Int) := by simp [packL, bodyL]
  have e2 : ((packL l).take n)[1]? = some (l.length : Int) := by
    rw [List.getElem?_take_of_lt (by omega)]
    simp [packL, bodyL]
  rw [h2, e2] at e1
  simp only [Option.some.injEq] at e1
  omega
end Go.Proofs.YtmeidjhojanogaaDoor
