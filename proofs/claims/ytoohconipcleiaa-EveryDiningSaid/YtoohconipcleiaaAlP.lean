/- Which locks a thread takes with which, by its text; a run's pairs of locks are among these. No program. -/
import Derived.Test.YtoohconipcleiaaPgK
import Derived.Test.YtoohconipcleiaaGrP
namespace Go.Proofs.Ytoohconipcleiaa

def ev0 (z : List Ev) (i : Nat) : Ev := z.getD i ⟨0, 0, 0⟩
theorem ev0_at {z : List Ev} {i : Nat} (h : i < z.length) : ev0 z i = z[i] := by simp [ev0, List.getD, h]
theorem ev0_op (p : List (List Ev)) (t i : Nat) : ev0 (opsP p t) i = opA p t i := rfl
def alStep (s : (Nat → Bool) × (Nat → Nat → Bool)) (o : Ev) : (Nat → Bool) × (Nat → Nat → Bool) :=
  if o.k = 4 ∧ s.1 o.t.toNat = false then (fun i => if i = o.t.toNat then true else s.1 i, fun a b => s.2 a b || (decide (b = o.t.toNat) && s.1 a))
  else if o.k = 5 then (fun i => if i = o.t.toNat then false else s.1 i, s.2) else s
/-- Behind i ops: what it has; what it took with what. -/
def alN (z : List Ev) : Nat → (Nat → Bool) × (Nat → Nat → Bool)
  | 0 => (fun _ => false, fun _ _ => false)
  | i + 1 => alStep (alN z i) (ev0 z i)
def HeldZ (z : List Ev) (i L : Nat) : Prop := ∃ j, j < i ∧ (ev0 z j).k = 4 ∧ (ev0 z j).t.toNat = L ∧ ∀ k, j < k → k < i → ¬ ((ev0 z k).k = 5 ∧ (ev0 z k).t.toNat = L)
theorem heldZ_op (p : List (List Ev)) (t i L : Nat) : HeldOp p t i L ↔ HeldZ (opsP p t) i L := Iff.rfl
theorem heldZ_succ {z : List Ev} {i L : Nat} : HeldZ z (i + 1) L ↔ ((ev0 z i).k = 4 ∧ (ev0 z i).t.toNat = L) ∨ (HeldZ z i L ∧ ¬ ((ev0 z i).k = 5 ∧ (ev0 z i).t.toNat = L)) := by
  constructor
  · rintro ⟨j, hj, h4, hL, hno⟩
    by_cases e : j = i
    · subst e; exact .inl ⟨h4, hL⟩
    · exact .inr ⟨⟨j, by omega, h4, hL, fun k h1 h2 => hno k h1 (by omega)⟩, hno i (by omega) (by omega)⟩
  · rintro (⟨h4, hL⟩ | ⟨⟨j, hj, h4, hL, hno⟩, hn⟩)
    · exact ⟨i, by omega, h4, hL, fun k h1 h2 => by omega⟩
    · refine ⟨j, by omega, h4, hL, fun k h1 h2 => ?_⟩
      by_cases e : k = i
      · subst e; exact hn
      · exact hno k h1 (by omega)
theorem alN_held (z : List Ev) : ∀ (i L : Nat), (alN z i).1 L = true ↔ HeldZ z i L
  | 0, L => ⟨fun h => (by cases h), fun ⟨j, hj, _⟩ => absurd hj (Nat.not_lt_zero _)⟩
  | i + 1, L => by
    rw [heldZ_succ, ← alN_held z i L]
    show (alStep (alN z i) (ev0 z i)).1 L = true ↔ _
    unfold alStep
    by_cases h4 : (ev0 z i).k = 4
    · by_cases hf : (alN z i).1 (ev0 z i).t.toNat = false
      · rw [if_pos ⟨h4, hf⟩]
        show (if L = (ev0 z i).t.toNat then true else (alN z i).1 L) = true ↔ _
        by_cases e : L = (ev0 z i).t.toNat
        · rw [if_pos e]; exact ⟨fun _ => .inl ⟨h4, e.symm⟩, fun _ => rfl⟩
        · rw [if_neg e]
          refine ⟨fun h => .inr ⟨h, fun c => by rw [h4] at c; exact absurd c.1 (by decide)⟩, ?_⟩
          rintro (⟨_, c⟩ | ⟨h, _⟩)
          · exact absurd c.symm e
          · exact h
      · rw [if_neg (fun c => hf c.2), if_neg (by omega)]
        refine ⟨fun h => .inr ⟨h, fun c => by rw [h4] at c; exact absurd c.1 (by decide)⟩, ?_⟩
        rintro (⟨_, c⟩ | ⟨h, _⟩)
        · rw [← c]; simpa using hf
        · exact h
    · rw [if_neg (fun c => h4 c.1)]
      by_cases h5 : (ev0 z i).k = 5
      · rw [if_pos h5]
        show (if L = (ev0 z i).t.toNat then false else (alN z i).1 L) = true ↔ _
        by_cases e : L = (ev0 z i).t.toNat
        · rw [if_pos e]
          refine ⟨fun h => (by cases h), ?_⟩
          rintro (⟨c, _⟩ | ⟨_, c⟩)
          · exact absurd c h4
          · exact absurd ⟨h5, e.symm⟩ c
        · rw [if_neg e]
          refine ⟨fun h => .inr ⟨h, fun c => e c.2.symm⟩, ?_⟩
          rintro (⟨c, _⟩ | ⟨h, _⟩)
          · exact absurd c h4
          · exact h
      · rw [if_neg h5]
        refine ⟨fun h => .inr ⟨h, fun c => h5 c.1⟩, ?_⟩
        rintro (⟨c, _⟩ | ⟨h, _⟩)
        · exact absurd c h4
        · exact h
theorem alN_mono (z : List Ev) (a b : Nat) {i : Nat} : ∀ {j : Nat}, i ≤ j → (alN z i).2 a b = true → (alN z j).2 a b = true
  | 0, hij, h => by obtain rfl : i = 0 := by omega
                    exact h
  | j + 1, hij, h => by
    by_cases e : i = j + 1
    · subst e; exact h
    · have ih := alN_mono z a b (j := j) (by omega) h
      show (alStep (alN z j) (ev0 z j)).2 a b = true
      unfold alStep
      (repeat' split)
      · show ((alN z j).2 a b || _) = true; rw [ih]; rfl
      · exact ih
      · exact ih
/-- The pairs, each once, in order. -/
def pwRow (W : Nat → Nat → Bool) (a b : Nat) : List (Int × Int) := ((List.range b).filter fun k : Nat => W a k).map fun k : Nat => ((a : Int), (k : Int))
def pwAll (W : Nat → Nat → Bool) (a : Nat) : List (Int × Int) := (List.range a).flatMap fun i => pwRow W i 5
theorem pwRow_yes {W : Nat → Nat → Bool} {a b : Nat} (h : W a b = true) : pwRow W a (b + 1) = pwRow W a b ++ [((a : Int), (b : Int))] := by
  simp [pwRow, List.range_succ, List.filter_append, h]
theorem pwRow_no {W : Nat → Nat → Bool} {a b : Nat} (h : W a b = false) : pwRow W a (b + 1) = pwRow W a b := by
  simp [pwRow, List.range_succ, List.filter_append, h]
theorem pwAll_succ (W : Nat → Nat → Bool) (a : Nat) : pwAll W (a + 1) = pwAll W a ++ pwRow W a 5 := by simp [pwAll, List.range_succ]
theorem pwRow_len (W : Nat → Nat → Bool) (a b : Nat) : (pwRow W a b).length ≤ b := by
  simpa [pwRow] using List.length_filter_le (fun k : Nat => W a k) (List.range b)
theorem pwAll_len (W : Nat → Nat → Bool) : ∀ a, (pwAll W a).length ≤ a * 5
  | 0 => by simp [pwAll]
  | a + 1 => by
    rw [pwAll_succ, List.length_append]
    have := pwAll_len W a
    have := pwRow_len W a 5
    omega
theorem mem_pwAll {W : Nat → Nat → Bool} {n : Nat} {x : Int × Int} : x ∈ pwAll W n ↔ ∃ a b : Nat, a < n ∧ b < 5 ∧ x = ((a : Int), (b : Int)) ∧ W a b = true := by
  simp only [pwAll, List.mem_flatMap, List.mem_range, pwRow, List.mem_map, List.mem_filter]
  constructor
  · rintro ⟨a, h1, b, ⟨h2, h3⟩, rfl⟩; exact ⟨a, b, h1, h2, rfl, h3⟩
  · rintro ⟨a, b, h1, h2, rfl, h3⟩; exact ⟨a, h1, b, ⟨h2, h3⟩, rfl⟩
def alOut (z : List Ev) : List (Int × Int) := pwAll (alN z z.length).2 5
theorem alOut_ok (z : List Ev) : okPr (alOut z) := by
  intro x hx
  obtain ⟨a, b, h1, h2, rfl, _⟩ := mem_pwAll.1 hx
  simp only
  omega
theorem alOut_len (z : List Ev) : (alOut z).length ≤ 25 := pwAll_len _ 5

/-- Who has a lock has it by its text. -/
def LockC (p : List (List Ev)) (s : PS) : Prop := ∀ (t L : Nat), s.owner L = (t : Int) + 1 → HeldOp p t (s.at_ t) L
theorem LockC.first (p : List (List Ev)) : LockC p PS.first := fun t L h => by
  have : (0 : Int) = (t : Int) + 1 := h
  omega
theorem LockC.step {p : List (List Ev)} {s : PS} {t : Int} (h : LockC p s) : LockC p (stepP p s t.toNat).1 := by
  intro v L hv
  unfold stepP at hv ⊢
  rw [doOp_at]
  rw [doOp_owner] at hv
  show HeldOp p v (upN s.at_ t.toNat (s.at_ t.toNat + 1) v) L
  have hv : (if (opN p s t.toNat).k = 4 ∧ L = (opN p s t.toNat).t.toNat then (t.toNat : Int) + 1 else if (opN p s t.toNat).k = 5 ∧ L = (opN p s t.toNat).t.toNat ∧ s.owner L = t.toNat + 1 then 0 else s.owner L) = (v : Int) + 1 := hv
  by_cases c : (opN p s t.toNat).k = 4 ∧ L = (opN p s t.toNat).t.toNat
  · rw [if_pos c] at hv
    obtain rfl : v = t.toNat := by omega
    rw [upN_same, heldZ_op, heldZ_succ]
    exact .inl ⟨c.1, c.2.symm⟩
  · rw [if_neg c] at hv
    by_cases c2 : (opN p s t.toNat).k = 5 ∧ L = (opN p s t.toNat).t.toNat ∧ s.owner L = t.toNat + 1
    · rw [if_pos c2] at hv; omega
    · rw [if_neg c2] at hv
      have := h v L hv
      by_cases e : v = t.toNat
      · subst e
        rw [upN_same, heldZ_op, heldZ_succ]
        exact .inr ⟨this, fun c3 => c2 ⟨c3.1, c3.2.symm, hv⟩⟩
      · rw [upN_ne e]; exact this
def TakesR (p : List (List Ev)) (l : List Ev) : Prop := ∀ i, i < l.length → (evAt l i).k = 3 → ∀ j : Nat, (stAt l i).owner j = (evAt l i).t + 1 → ∃ t, t < p.length ∧ (alN (opsP p t) (plen p t)).2 j (evAt l i).o.toNat = true
theorem doOp_acq {p : List (List Ev)} {s : PS} {t : Nat} {o e : Ev} (h : (doOp p s t o).2 = some e) (hk : e.k = 3) : o.k = 4 ∧ e.o = o.t := by
  unfold doOp at h
  by_cases k4 : o.k = 4
  · rw [if_neg (by omega), if_neg (by omega), if_neg (by omega), if_pos k4] at h
    simp only [Option.some.injEq] at h
    subst h
    exact ⟨k4, rfl⟩
  · exfalso
    (repeat' split at h) <;> first | (cases h; done) | (exact absurd (by assumption) k4) | (simp only [Option.some.injEq] at h; subst h; simp at hk)
theorem runP_takes {p : List (List Ev)} (hp : OkP p) (picks : List Int) : TakesR p (runP p picks).2 := by
  refine (run_ind hp (Q := fun r => Valid p r ∧ (LockH p r.1 ∧ LockC p r.1) ∧ TakesR p r.2) ⟨⟨rfl, Agree.first p, Nat.zero_le _⟩, ⟨LockH.first p, LockC.first p⟩, fun j h => absurd h (Nat.not_lt_zero _)⟩ ?_ picks).2.2.2
  intro r t hI ⟨hV, ⟨hLk, hLc⟩, hH⟩ hc
  have hn := canB_next hc
  obtain ⟨t0, t1, _, _⟩ := nextB_iff.1 hn
  have hat := nextB_at hI hn
  obtain ⟨h1, h2⟩ := hV.agree.step hp hI hc
  have h6 := hp.six
  have hs := sumA_step p r.1 (t := t.toNat) (by omega)
  cases he : (stepP p r.1 t.toNat).2 with
  | none =>
    simp only [Option.toList_none, List.append_nil]
    exact ⟨⟨hV.ok, h1 he, by have := hV.len; show r.2.length ≤ sumA (stepP p r.1 t.toNat).1; omega⟩, ⟨hLk.step hc, hLc.step⟩, hH⟩
  | some e =>
    obtain ⟨g1, g2⟩ := h2 e he
    have hq := playL_snoc hV.ok g1
    simp only [Option.toList_some]
    refine ⟨⟨by show (playL St.first 0 (r.2 ++ [e])).2.2 = 0; rw [hq], by show Agree p _ (playL St.first 0 (r.2 ++ [e])).1; rw [hq]; exact g2, by have := hV.len; show (r.2 ++ [e]).length ≤ sumA (stepP p r.1 t.toNat).1; simp; omega⟩, ⟨hLk.step hc, hLc.step⟩, ?_⟩
    intro i hi hk j hj
    by_cases hlt : i < r.2.length
    · have e1 : evAt (r.2 ++ [e]) i = evAt r.2 i := by rw [evAt_lt hi, evAt_lt hlt, List.getElem_append_left hlt]
      rw [e1] at hk hj ⊢
      rw [stAt_front _ _ (Nat.le_of_lt hlt)] at hj
      exact hH i hlt hk j hj
    · have hje : i = r.2.length := by simp at hi; omega
      subst hje
      have e1 : evAt (r.2 ++ [e]) r.2.length = e := by rw [evAt_lt hi]; simp
      rw [e1] at hk hj ⊢
      rw [stAt_front _ _ (Nat.le_refl _)] at hj
      replace hj : (stFrom St.first r.2 r.2.length).owner j = e.t + 1 := hj
      rw [← (playL_at r.2 St.first 0 hV.ok).2, hV.agree.owner] at hj
      have ht : e.t = (t.toNat : Int) := doOp_thread he
      rw [ht] at hj
      obtain ⟨ho4, hoo⟩ := doOp_acq he hk
      refine ⟨t.toNat, by omega, alN_mono _ _ _ (Nat.succ_le_of_lt hat) ?_⟩
      show (alStep (alN (opsP p t.toNat) (r.1.at_ t.toNat)) (ev0 (opsP p t.toNat) (r.1.at_ t.toNat))).2 j e.o.toNat = true
      have hop : ev0 (opsP p t.toNat) (r.1.at_ t.toNat) = opN p r.1 t.toNat := rfl
      rw [hop, hoo]
      have hfree : (alN (opsP p t.toNat) (r.1.at_ t.toNat)).1 (opN p r.1 t.toNat).t.toNat = false := by
        cases c : (alN (opsP p t.toNat) (r.1.at_ t.toNat)).1 (opN p r.1 t.toNat).t.toNat
        · rfl
        · have := hLk _ _ ((heldZ_op p t.toNat _ _).2 ((alN_held _ _ _).1 c))
          rw [canB_lock hc ho4] at this
          omega
      unfold alStep
      rw [if_pos ⟨ho4, hfree⟩]
      show ((alN (opsP p t.toNat) (r.1.at_ t.toNat)).2 j _ || (decide (_ = _) && (alN (opsP p t.toNat) (r.1.at_ t.toNat)).1 j)) = true
      rw [(alN_held _ _ j).2 ((heldZ_op p t.toNat _ _).1 (hLc _ _ hj))]
      simp
/-- The law. -/
theorem run_alones {p : List (List Ev)} (hp : OkP p) (picks : List Int) {x : Int × Int} (hx : x ∈ grOut (runP p picks).2) : ∃ t, t < p.length ∧ x ∈ alOut (opsP p t) := by
  obtain ⟨a, b, h1, h2, rfl, h3⟩ := mem_grAll.1 hx
  obtain ⟨i, h4, h5, j, h6, h7, h8⟩ := mem_grS.1 h3
  have hpl : (played (runP p picks).2).2.2 = 0 := by
    have := runP_may hp picks
    rwa [mayB, beq_iff_eq] at this
  obtain ⟨t, ht, hW⟩ := runP_takes hp picks i h4 h5 j h7
  refine ⟨t, ht, mem_pwAll.2 ⟨a, b, h1, h2, rfl, ?_⟩⟩
  simp only [Prod.mk.injEq] at h8
  have ea : a = j := by omega
  have eb : b = (evAt (runP p picks).2 i).o.toNat := by omega
  rw [ea, eb]
  exact hW
end Go.Proofs.Ytoohconipcleiaa
