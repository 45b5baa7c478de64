/- One thread that adds numbers and stores each sum. No program. -/
import Derived.Test.YthfeakfakjecoaaPgV
import Derived.Test.YthfeakfakjecoaaPgG
namespace Go.Proofs.Ythfeakfakjecoaa

def opsF (ns : List Int) (i : Nat) : Ev := if i % 2 = 0 then ⟨3, 0, ns.getD (i / 2) 0⟩ else ⟨2, (i / 2 : Nat), 0⟩
def opsK (ns : List Int) (k : Nat) : List Ev := (List.range (2 * k)).map (opsF ns)
theorem opsK_len (ns : List Int) (k : Nat) : (opsK ns k).length = 2 * k := by simp [opsK]
theorem opsK_succ (ns : List Int) (k : Nat) : opsK ns (k + 1) = opsK ns k ++ [⟨3, 0, ns.getD k 0⟩, ⟨2, (k : Nat), 0⟩] := by
  unfold opsK
  rw [show 2 * (k + 1) = 2 * k + 1 + 1 by omega, List.range_succ, List.range_succ, List.map_append, List.map_append, List.append_assoc]
  congr 1
  simp only [List.map_cons, List.map_nil, List.cons_append, List.nil_append]
  have h1 : opsF ns (2 * k) = ⟨3, 0, ns.getD k 0⟩ := by unfold opsF; rw [if_pos (by omega), show 2 * k / 2 = k by omega]
  have h2 : opsF ns (2 * k + 1) = ⟨2, (k : Nat), 0⟩ := by unfold opsF; rw [if_neg (by omega), show (2 * k + 1) / 2 = k by omega]
  rw [h1, h2]
theorem opsK_at (ns : List Int) {k i : Nat} (h : i < 2 * k) : (opsK ns k)[i]'(by rw [opsK_len]; exact h) = opsF ns i := by simp [opsK]
/-- The sum of the first k. -/
def sumK (ns : List Int) : Nat → Int
  | 0 => 0
  | k + 1 => sumK ns k + ns.getD k 0
def wantK (ns : List Int) (k i : Nat) : Int := if i < k then sumK ns (i + 1) else 0
theorem wantK_succ (ns : List Int) (k i : Nat) : wantK ns (k + 1) i = if i = k then sumK ns (k + 1) else wantK ns k i := by
  unfold wantK
  by_cases e : i = k
  · subst e; rw [if_pos (by omega), if_pos rfl]
  · rw [if_neg e]
    by_cases h : i < k
    · rw [if_pos (by omega), if_pos h]
    · rw [if_neg (by omega), if_neg h]
def SmallL (ns : List Int) : Prop := ∀ k, -1000 ≤ ns.getD k 0 ∧ ns.getD k 0 ≤ 1000
theorem sumK_le {ns : List Int} (h : SmallL ns) : ∀ k : Nat, -(1000 * (k : Int)) ≤ sumK ns k ∧ sumK ns k ≤ 1000 * (k : Int)
  | 0 => by simp [sumK]
  | k + 1 => by have := sumK_le h k; have := h k; simp only [sumK]; omega
theorem opsK_ok {ns : List Int} (h : SmallL ns) {m : Nat} (hm : m ≤ 6) : OkP [opsK ns m] := by
  refine ⟨by simp, by simp, fun z hz => ?_, fun z hz e he => ?_⟩
  · obtain rfl : z = opsK ns m := by simpa using hz
    rw [opsK_len]; omega
  · obtain rfl : z = opsK ns m := by simpa using hz
    obtain ⟨i, hi, rfl⟩ := List.mem_map.1 he
    have hi : i < 2 * m := List.mem_range.1 hi
    unfold opsF
    have := h (i / 2)
    split
    · exact bad_iff.2 ⟨Int.le_refl _, (show (0 : Int) < boundK 3 by decide), (show -(1000 : Int) ≤ ns.getD (i / 2) 0 from this.1), (show ns.getD (i / 2) 0 ≤ (1000 : Int) from this.2)⟩
    · exact bad_iff.2 ⟨Int.natCast_nonneg _, (show ((i / 2 : Nat) : Int) < 8 by omega), (show -mostK 2 ≤ 0 by decide), (show (0 : Int) ≤ mostK 2 by decide)⟩
theorem ok_chk {p : List (List Ev)} (h : OkP p) : chkP p = 0 := by
  unfold chkP
  rw [if_neg (by have := h.pos; have := h.six; omega), if_neg, if_neg]
  · rw [List.any_eq_true]
    rintro ⟨z, hz, hb⟩
    obtain ⟨e, he, hb⟩ := List.any_eq_true.1 hb
    rw [h.op z hz e he] at hb; cases hb
  · rw [List.any_eq_true]
    rintro ⟨z, hz, hb⟩
    have := h.len z hz
    have := of_decide_eq_true hb
    omega
structure SumI (ns : List Int) (m j : Nat) (r : PS × List Ev) : Prop where
  at_ : r.1.at_ 0 = 2 * j
  begun : r.1.begun 0 = true
  has : r.1.has 0 = sumK ns j
  mem : ∀ i, r.1.mem i = wantK ns j i
  len : r.2.length = j
theorem SumI.step {ns : List Int} {m j : Nat} {r : PS × List Ev} (h : SumI ns m j r) (hj : j < m) : SumI ns m (j + 1) (pickP [opsK ns m] (pickP [opsK ns m] r 0) 0) := by
  have l1 : 2 * j < (opsK ns m).length := by rw [opsK_len]; omega
  have l2 : 2 * j + 1 < (opsK ns m).length := by rw [opsK_len]; omega
  have o1 : opN [opsK ns m] r.1 (0 : Int).toNat = ⟨3, 0, ns.getD j 0⟩ := by
    show opA _ 0 (r.1.at_ 0) = _
    rw [h.at_, opA_one l1, opsK_at ns (by omega)]
    unfold opsF; rw [if_pos (by omega), show 2 * j / 2 = j by omega]
  have c1 : canB [opsK ns m] r.1 0 = true := by
    have hn : nextB [opsK ns m] r.1 0 = true := nextB_iff.2 ⟨by omega, by simp, h.begun, by show r.1.at_ 0 ≠ plen _ 0; rw [h.at_, plen_one, opsK_len]; omega⟩
    unfold canB
    rw [hn, o1, if_neg (by simp), if_neg (by simp)]; rfl
  have s1 : stepP [opsK ns m] r.1 (0 : Int).toNat = ({ tick r.1 0 with has := upZ r.1.has 0 (r.1.has 0 + ns.getD j 0) }, none) := by
    unfold stepP; rw [o1]; exact do3 rfl
  rw [pickP_yes c1, s1]
  generalize hr1 : (({ tick r.1 0 with has := upZ r.1.has 0 (r.1.has 0 + ns.getD j 0) } : PS), r.2 ++ (none : Option Ev).toList) = r1
  have a1 : r1.1.at_ 0 = 2 * j + 1 := by rw [← hr1]; show upN r.1.at_ 0 (r.1.at_ 0 + 1) 0 = _; simp [upN, h.at_]
  have b1 : r1.1.begun 0 = true := by rw [← hr1]; exact h.begun
  have h1 : r1.1.has 0 = sumK ns (j + 1) := by rw [← hr1]; show upZ r.1.has 0 _ 0 = _; simp [upZ, h.has, sumK]
  have m1 : ∀ i, r1.1.mem i = wantK ns j i := by rw [← hr1]; exact h.mem
  have n1 : r1.2.length = j := by rw [← hr1]; simp [h.len]
  have o2 : opN [opsK ns m] r1.1 (0 : Int).toNat = ⟨2, (j : Nat), 0⟩ := by
    show opA _ 0 (r1.1.at_ 0) = _
    rw [a1, opA_one l2, opsK_at ns (by omega)]
    unfold opsF; rw [if_neg (by omega), show (2 * j + 1) / 2 = j by omega]
  have c2 : canB [opsK ns m] r1.1 0 = true := by
    have hn : nextB [opsK ns m] r1.1 0 = true := nextB_iff.2 ⟨by omega, by simp, b1, by show r1.1.at_ 0 ≠ plen _ 0; rw [a1, plen_one, opsK_len]; omega⟩
    unfold canB
    rw [hn, o2, if_neg (by simp), if_neg (by simp)]; rfl
  have s2 : stepP [opsK ns m] r1.1 (0 : Int).toNat = ({ tick r1.1 0 with mem := upZ r1.1.mem j (r1.1.has 0) }, some ⟨2, 0, j⟩) := by
    unfold stepP; rw [o2, do2 rfl]; rfl
  rw [pickP_yes c2, s2]
  refine ⟨?_, b1, h1, fun i => ?_, ?_⟩
  · show upN r1.1.at_ 0 (r1.1.at_ 0 + 1) 0 = _; simp [upN, a1]; omega
  · show upZ r1.1.mem j (r1.1.has 0) i = _
    rw [wantK_succ, h1]
    unfold upZ
    split
    · rfl
    · exact m1 i
  · simp [n1]
theorem sums_run {ns : List Int} {m : Nat} : ∀ j, j ≤ m → SumI ns m j (runP [opsK ns m] (List.replicate (2 * j) 0))
  | 0, _ => ⟨rfl, rfl, rfl, fun i => by simp [wantK, runP, PS.first], rfl⟩
  | j + 1, h => by
    rw [show 2 * (j + 1) = 2 * j + 1 + 1 by omega, List.replicate_succ', runP_snoc, List.replicate_succ', runP_snoc]
    exact (sums_run j (by omega)).step (by omega)
/-- What Run says of it. -/
theorem sums_end {ns : List Int} (hs : SmallL ns) {m : Nat} (hm : m ≤ 6) :
    errR [opsK ns m] (2 * m) = 0 ∧ (evR [opsK ns m] (List.replicate (2 * m) 0)).length = m ∧ (∀ i, i < 8 → (endR [opsK ns m] (List.replicate (2 * m) 0))[i]? = some (.int .i64 (wantK ns m i))) ∧
    (endR [opsK ns m] (List.replicate (2 * m) 0))[12]? = some (.int .i64 (sumK ns m)) ∧ (endR [opsK ns m] (List.replicate (2 * m) 0))[18]? = some (.bool true) := by
  have hp := opsK_ok hs hm
  have he : errR [opsK ns m] (2 * m) = 0 := by unfold errR; rw [if_pos (ok_chk hp), if_neg (by omega)]
  have h := sums_run (ns := ns) (m := m) m (Nat.le_refl _)
  have hE : endR [opsK ns m] (List.replicate (2 * m) 0) = endC (runP [opsK ns m] (List.replicate (2 * m) 0)).1 (doneB [opsK ns m] (runP [opsK ns m] (List.replicate (2 * m) 0)).1) (stuckB [opsK ns m] (runP [opsK ns m] (List.replicate (2 * m) 0)).1) := by
    unfold endR; rw [List.length_replicate, if_pos he]
  have hV : evR [opsK ns m] (List.replicate (2 * m) 0) = (runP [opsK ns m] (List.replicate (2 * m) 0)).2 := by unfold evR; rw [List.length_replicate, if_pos he]
  have hd : doneB [opsK ns m] (runP [opsK ns m] (List.replicate (2 * m) 0)).1 = true := by
    have e1 : doneB [opsK ns m] (runP [opsK ns m] (List.replicate (2 * m) 0)).1 = !(nextB [opsK ns m] (runP [opsK ns m] (List.replicate (2 * m) 0)).1 0) := by simp [doneB, List.range_succ]
    rw [e1]
    cases c : nextB [opsK ns m] (runP [opsK ns m] (List.replicate (2 * m) 0)).1 0
    · rfl
    · have h2 : (runP [opsK ns m] (List.replicate (2 * m) 0)).1.at_ 0 ≠ plen [opsK ns m] 0 := (nextB_iff.1 c).2.2.2
      rw [plen_one, opsK_len] at h2
      exact absurd h.at_ h2
  rw [hE, hV]
  refine ⟨he, h.len, fun i hi => ?_, ?_, ?_⟩
  · rw [endC_get _ _ _ (by omega)]; unfold psF; rw [if_pos hi, h.mem]
  · rw [endC_get _ _ _ (by omega)]
    show some (Value.int .i64 ((runP [opsK ns m] (List.replicate (2 * m) 0)).1.has 0)) = _
    rw [h.has]
  · rw [endC_get _ _ _ (by omega), hd]; rfl
end Go.Proofs.Ythfeakfakjecoaa
