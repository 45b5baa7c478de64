/- One thread alone: it does all its ops, unless it waits for itself or joins. No program. -/
import Derived.Test.YtoohconipcleiaaMC
namespace Go.Proofs.Ytoohconipcleiaa

def heldU (f : Int → Bool) (k : Int) (b : Bool) : Int → Bool := fun i => if i = k then b else f i
def oneW (f : (Int → Bool) × Bool) (o : Ev) : Bool := f.2 || (o.k == 7) || ((o.k == 4) && f.1 o.t)
def oneH (f : (Int → Bool) × Bool) (o : Ev) : Int → Bool := if o.k = 4 ∨ o.k = 5 then heldU f.1 o.t (o.k == 4) else f.1
def oneS (f : (Int → Bool) × Bool) (o : Ev) : (Int → Bool) × Bool := (oneH f o, oneW f o)
def oneF (z : List Ev) : (Int → Bool) × Bool := z.foldl oneS (fun _ => false, false)
theorem oneF_snoc (z : List Ev) (o : Ev) : oneF (z ++ [o]) = oneS (oneF z) o := by simp [oneF]
structure OneI (z : List Ev) (i : Nat) (s : PS) (f : (Int → Bool) × Bool) : Prop where
  go : f.2 = false → s.at_ 0 = i ∧ (∀ u, s.begun u = (u == 0)) ∧ ∀ o : Nat, s.owner o = if f.1 (o : Int) = true then 1 else 0
  no : f.2 = true → nextB [z] s 0 = true ∧ canB [z] s 0 = false
theorem plen_one (z : List Ev) : plen [z] 0 = z.length := rfl
theorem opA_one {z : List Ev} {i : Nat} (h : i < z.length) : opA [z] 0 i = z[i] := by
  show z.getD i _ = _
  rw [List.getD_eq_getElem?_getD, List.getElem?_eq_getElem h]; rfl
theorem OneI.pick {z : List Ev} {i : Nat} {r : PS × List Ev} {f : (Int → Bool) × Bool} (hp : OkP [z]) (hi : i < z.length) (h : OneI z i r.1 f) : OneI z (i + 1) (pickP [z] r 0).1 (oneS f z[i]) := by
  cases hf : f.2
  · obtain ⟨ha, hbg, hown⟩ := h.go hf
    have hn : nextB [z] r.1 0 = true := nextB_iff.2 ⟨by omega, by simp, by rw [hbg]; rfl, by show r.1.at_ 0 ≠ plen [z] 0; rw [ha, plen_one]; omega⟩
    have hop : opN [z] r.1 (0 : Int).toNat = z[i] := by
      show opA [z] 0 (r.1.at_ 0) = _
      rw [ha]; exact opA_one hi
    have hb : badOp z[i] = false := hp.op z (by simp) _ (List.getElem_mem hi)
    obtain ⟨b1, b2, _, _⟩ := bad_iff.1 hb
    by_cases k7 : z[i].k = 7
    · have hc : canB [z] r.1 0 = false := by
        unfold canB
        rw [hn, hop, if_neg (by omega), if_pos k7]
        by_cases e : z[i].t = 0
        · simp [e]
        · have : ¬ z[i].t < (([z] : List (List Ev)).length : Int) := by simp; omega
          rw [decide_eq_false this]; rfl
      rw [pickP_no hc]
      have hw : oneW f z[i] = true := by simp [oneW, k7]
      exact ⟨fun h => (by rw [show (oneS f z[i]).2 = oneW f z[i] from rfl, hw] at h; cases h), fun _ => ⟨hn, hc⟩⟩
    by_cases k4 : z[i].k = 4
    · obtain ⟨q, hq⟩ := Int.eq_ofNat_of_zero_le b1
      have hoq : r.1.owner z[i].t.toNat = if f.1 z[i].t = true then 1 else 0 := by rw [hq, Int.toNat_natCast]; exact hown q
      have hcan : canB [z] r.1 0 = !(f.1 z[i].t) := by
        unfold canB
        rw [hn, hop, if_pos k4, hoq]
        cases f.1 z[i].t <;> rfl
      cases hh : f.1 z[i].t
      · have hc : canB [z] r.1 0 = true := by rw [hcan, hh]; rfl
        rw [pickP_yes hc]
        have hw : oneW f z[i] = false := by simp [oneW, hf, k4, hh]
        refine ⟨fun _ => ?_, fun h => (by rw [show (oneS f z[i]).2 = oneW f z[i] from rfl, hw] at h; cases h)⟩
        unfold stepP
        rw [hop, do4 k4]
        refine ⟨by show upN r.1.at_ 0 (r.1.at_ 0 + 1) 0 = _; simp [upN, ha], hbg, fun o => ?_⟩
        show upZ r.1.owner z[i].t.toNat _ o = if oneH f z[i] o = true then 1 else 0
        unfold upZ oneH heldU
        rw [if_pos (Or.inl k4)]
        by_cases e : o = z[i].t.toNat
        · rw [if_pos e, if_pos (show (o : Int) = z[i].t by omega), k4]; rfl
        · rw [if_neg e, if_neg (show ¬ (o : Int) = z[i].t by omega)]; exact hown o
      · have hc : canB [z] r.1 0 = false := by rw [hcan, hh]; rfl
        rw [pickP_no hc]
        have hw : oneW f z[i] = true := by simp [oneW, k4, hh]
        exact ⟨fun h => (by rw [show (oneS f z[i]).2 = oneW f z[i] from rfl, hw] at h; cases h), fun _ => ⟨hn, hc⟩⟩
    have hc : canB [z] r.1 0 = true := by
      unfold canB
      rw [hn, hop, if_neg k4, if_neg k7]; rfl
    rw [pickP_yes hc]
    have hw : oneW f z[i] = false := by simp [oneW, hf, k4, k7]
    refine ⟨fun _ => ?_, fun h => (by rw [show (oneS f z[i]).2 = oneW f z[i] from rfl, hw] at h; cases h)⟩
    have hat : upN r.1.at_ 0 (r.1.at_ 0 + 1) 0 = i + 1 := by simp [upN, ha]
    unfold stepP
    rw [hop]
    by_cases k5 : z[i].k = 5
    · have hH : oneH f z[i] = heldU f.1 z[i].t false := by unfold oneH; rw [if_pos (Or.inr k5), k5]; rfl
      by_cases c : (tick r.1 (0 : Int).toNat).owner z[i].t.toNat = ((0 : Int).toNat : Int) + 1
      · rw [do5y k5 c]
        refine ⟨hat, hbg, fun o => ?_⟩
        show upZ r.1.owner z[i].t.toNat 0 o = if oneH f z[i] o = true then 1 else 0
        rw [hH]
        unfold upZ heldU
        by_cases e : o = z[i].t.toNat
        · rw [if_pos e, if_pos (show (o : Int) = z[i].t by omega)]; rfl
        · rw [if_neg e, if_neg (show ¬ (o : Int) = z[i].t by omega)]; exact hown o
      · rw [do5n k5 c]
        refine ⟨hat, hbg, fun o => ?_⟩
        show r.1.owner o = if oneH f z[i] o = true then 1 else 0
        rw [hH]
        unfold heldU
        by_cases e : o = z[i].t.toNat
        · rw [if_pos (show (o : Int) = z[i].t by omega)]
          have c' : ¬ r.1.owner z[i].t.toNat = 1 := c
          have := hown o
          rw [e] at this ⊢
          rw [this] at c' ⊢
          split at c'
          · exact absurd rfl c'
          · rename_i h; rw [if_neg h]; rfl
        · rw [if_neg (show ¬ (o : Int) = z[i].t by omega)]; exact hown o
    · have hH : oneH f z[i] = f.1 := by unfold oneH; rw [if_neg (by omega)]
      have same : ∀ (s' : PS), s'.at_ = upN r.1.at_ 0 (r.1.at_ 0 + 1) → s'.begun = r.1.begun → s'.owner = r.1.owner → s'.at_ 0 = i + 1 ∧ (∀ u, s'.begun u = (u == 0)) ∧ ∀ o : Nat, s'.owner o = if (oneS f z[i]).1 (o : Int) = true then 1 else 0 := by
        intro s' e1 e2 e3
        refine ⟨by rw [e1]; exact hat, fun u => by rw [e2]; exact hbg u, fun o => ?_⟩
        rw [e3]
        show _ = if oneH f z[i] o = true then 1 else 0
        rw [hH]; exact hown o
      refine op_ways (p := [z]) (s := tick r.1 (0 : Int).toNat) (t := (0 : Int).toNat) (Q := fun q => q.1.at_ 0 = i + 1 ∧ (∀ u, q.1.begun u = (u == 0)) ∧ ∀ o : Nat, q.1.owner o = if (oneS f z[i]).1 (o : Int) = true then 1 else 0) hb ?_ ?_ ?_ ?_ ?_ ?_ ?_ ?_ ?_ ?_ ?_
      · intro _ _; exact same _ rfl rfl rfl
      · intro _ _; exact same _ rfl rfl rfl
      · intro _ _ _; exact same _ rfl rfl rfl
      · intro k; exact absurd k k4
      · intro k; exact absurd k k5
      · intro k; exact absurd k k5
      · intro k c1 _ c2
        exfalso
        have hz : z[i].t < 1 := by simpa using c1
        have e0 : z[i].t = 0 := by omega
        have : (tick r.1 (0 : Int).toNat).begun z[i].t.toNat = true := by rw [e0]; show r.1.begun 0 = true; rw [hbg]; rfl
        rw [this] at c2; cases c2
      · intro _ _; exact same _ rfl rfl rfl
      · intro k; exact absurd k k7
      · intro _ _; exact same _ rfl rfl rfl
      · intro _ _; exact same _ rfl rfl rfl
  · obtain ⟨hn, hc⟩ := h.no hf
    rw [pickP_no hc]
    have hw : oneW f z[i] = true := by simp [oneW, hf]
    exact ⟨fun h => (by rw [show (oneS f z[i]).2 = oneW f z[i] from rfl, hw] at h; cases h), fun _ => ⟨hn, hc⟩⟩
theorem one_all {z : List Ev} (hp : OkP [z]) : ∀ i, i ≤ z.length → OneI z i (runP [z] (List.replicate i 0)).1 (oneF (z.take i))
  | 0, _ => ⟨fun _ => ⟨rfl, fun _ => rfl, fun _ => rfl⟩, fun h => by simp [oneF] at h⟩
  | i + 1, h => by
    rw [List.replicate_succ', runP_snoc, List.take_succ_eq_append_getElem (by omega), oneF_snoc]
    exact (one_all hp i (by omega)).pick hp (by omega)
theorem one_end {z : List Ev} (hp : OkP [z]) : doneB [z] (runP [z] (List.replicate z.length 0)).1 = !(oneF z).2 ∧ stuckB [z] (runP [z] (List.replicate z.length 0)).1 = (oneF z).2 := by
  have h := one_all hp z.length (Nat.le_refl _)
  rw [List.take_length] at h
  generalize (runP [z] (List.replicate z.length 0)).1 = s at *
  have hd : doneB [z] s = !(nextB [z] s 0) := by simp [doneB, List.range_succ]
  have hs : stuckB [z] s = (!(canB [z] s 0) && !(doneB [z] s)) := by simp [stuckB, List.range_succ]
  rw [hs, hd]
  cases hf : (oneF z).2
  · obtain ⟨ha, _, _⟩ := h.go hf
    have hn : nextB [z] s 0 = false := by
      cases c : nextB [z] s 0
      · rfl
      · have := (nextB_iff.1 c).2.2.2
        exact absurd ha this
    have hc : canB [z] s 0 = false := by
      cases c : canB [z] s 0
      · rfl
      · rw [canB_next c] at hn; cases hn
    simp [hn, hc]
  · obtain ⟨hn, hc⟩ := h.no hf
    simp [hn, hc]
end Go.Proofs.Ytoohconipcleiaa
