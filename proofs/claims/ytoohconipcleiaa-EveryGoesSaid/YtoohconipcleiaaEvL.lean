/- Which locks a thread has by its text, as a map of ints tells it; a map's entries taken out, its length. -/
import Derived.Test.YtoohconipcleiaaEvG
import Derived.Test.YtoohconipcleiaaMH
namespace Go.Proofs.Ytoohconipcleiaa
open Go.RowKit Go.Maps Go.WideShapes Go.MapKept Go.ChangeMaps

def heldF (z : List Ev) : Nat → Int → Bool
  | 0, _ => false
  | i + 1, k => if (ev0 z i).k = 4 then (decide (k = (ev0 z i).t) || heldF z i k) else if (ev0 z i).k = 5 then (!decide (k = (ev0 z i).t) && heldF z i k) else heldF z i k
theorem heldF_alN {z : List Ev} : ∀ (i : Nat), (∀ j, j < i → (ev0 z j).k = 4 ∨ (ev0 z j).k = 5 → 0 ≤ (ev0 z j).t) → ∀ L : Nat, (alN z i).1 L = heldF z i (L : Int)
  | 0, _, _ => rfl
  | i + 1, h, L => by
    have ih := heldF_alN i (fun j hj => h j (by omega))
    have h0 := h i (by omega)
    show (alStep (alN z i) (ev0 z i)).1 L = heldF z (i + 1) (L : Int)
    unfold alStep heldF
    by_cases k4 : (ev0 z i).k = 4
    · have t0 := h0 (.inl k4)
      rw [if_pos k4]
      by_cases hf : (alN z i).1 (ev0 z i).t.toNat = false
      · rw [if_pos ⟨k4, hf⟩]
        show (if L = (ev0 z i).t.toNat then true else (alN z i).1 L) = _
        by_cases e : L = (ev0 z i).t.toNat
        · rw [if_pos e, decide_eq_true (by omega)]; rfl
        · rw [if_neg e, decide_eq_false (by omega), ih L]; rfl
      · rw [if_neg (fun c => hf c.2), if_neg (by omega)]
        by_cases e : L = (ev0 z i).t.toNat
        · rw [decide_eq_true (by omega), e]
          simpa using hf
        · rw [decide_eq_false (by omega), ih L]; rfl
    · rw [if_neg (fun c => k4 c.1), if_neg k4]
      by_cases k5 : (ev0 z i).k = 5
      · have t0 := h0 (.inr k5)
        rw [if_pos k5, if_pos k5]
        show (if L = (ev0 z i).t.toNat then false else (alN z i).1 L) = _
        by_cases e : L = (ev0 z i).t.toNat
        · rw [if_pos e, decide_eq_true (by omega)]; rfl
        · rw [if_neg e, decide_eq_false (by omega), ih L]; rfl
      · rw [if_neg k5, if_neg k5, ih L]
theorem heldF_four {z : List Ev} {i : Nat} (h : (ev0 z i).k = 4) (k : Int) : (if k = (ev0 z i).t then true else heldF z i k) = heldF z (i + 1) k := by
  show _ = if _ then _ else _
  rw [if_pos h]
  by_cases e : k = (ev0 z i).t
  · rw [if_pos e, decide_eq_true e]; rfl
  · rw [if_neg e, decide_eq_false e]; rfl
theorem heldF_five {z : List Ev} {i : Nat} (h : (ev0 z i).k = 5) (k : Int) : (!decide (k = (ev0 z i).t) && heldF z i k) = heldF z (i + 1) k := by
  show _ = if _ then _ else _
  rw [if_neg (by omega), if_pos h]
theorem heldF_else {z : List Ev} {i : Nat} (h4 : (ev0 z i).k ≠ 4) (h5 : (ev0 z i).k ≠ 5) (k : Int) : heldF z i k = heldF z (i + 1) k := by
  show _ = if _ then _ else _
  rw [if_neg h4, if_neg h5]
/-- A thread's text as the law looks at it. -/
structure GoodF (z : List Ev) (i : Nat) : Prop where
  join : ∀ j, j < i → (ev0 z j).k ≠ 7
  once : ∀ j, j < i → (ev0 z j).k = 4 → heldF z j (ev0 z j).t = false
theorem GoodF.zero (z : List Ev) : GoodF z 0 := ⟨fun _ h => absurd h (Nat.not_lt_zero _), fun _ h => absurd h (Nat.not_lt_zero _)⟩
theorem GoodF.succ {z : List Ev} {i : Nat} (h : GoodF z i) (h7 : (ev0 z i).k ≠ 7) (h4 : (ev0 z i).k = 4 → heldF z i (ev0 z i).t = false) : GoodF z (i + 1) := by
  refine ⟨fun j hj => ?_, fun j hj => ?_⟩
  · by_cases e : j = i
    · subst e; exact h7
    · exact h.join j (by omega)
  · by_cases e : j = i
    · subst e; exact h4
    · exact h.once j (by omega)
theorem GoodF.good {p : List (List Ev)} (hp : OkP p) {t : Nat} (h : GoodF (opsP p t) (opsP p t).length) (h0 : ∀ k, I64 k → heldF (opsP p t) (opsP p t).length k = false) : GoodZ (opsP p t) := by
  have hb : ∀ j, j < (opsP p t).length → 0 ≤ (ev0 (opsP p t) j).t ∧ (ev0 (opsP p t) j).t < 8 := fun j hj => by
    have h1 := hp.at (t := t) (i := j) (by rw [← opsP_len]; exact hj)
    obtain ⟨o0, oM, _⟩ := bad_iff.1 h1
    have := boundK_le (opA p t j).k
    exact ⟨o0, by show (opA p t j).t < 8; omega⟩
  have hal : ∀ i, i ≤ (opsP p t).length → ∀ L : Nat, (alN (opsP p t) i).1 L = heldF (opsP p t) i (L : Int) := fun i hi => heldF_alN i (fun j hj _ => (hb j (by omega)).1)
  refine ⟨h.join, fun i hi k4 => ?_, fun L => ?_⟩
  · have hbi := hb i hi
    rw [hal i (by omega)]
    have := h.once i hi k4
    rwa [show (((ev0 (opsP p t) i).t.toNat : Nat) : Int) = (ev0 (opsP p t) i).t by omega]
  · cases c : (alN (opsP p t) (opsP p t).length).1 L
    · rfl
    · obtain ⟨j, hj, _, hL, _⟩ := (alN_held _ _ _).1 c
      have hbj := hb j hj
      rw [hal _ (Nat.le_refl _) L, h0 (L : Int) (by unfold I64; omega)] at c
      exact c.symm
section
variable {w w' : World} {b n : Nat} {f : Int → Bool}
theorem MapB.drop (h : MapB w b n f) {k : Int} (hk : I64 k) : ∃ w', (∀ ty, (Builtin.delete_ #[61, 3] ty #[.map (some b), .int .i64 k]).run Try.prog w = .ok (.tuple #[]) w') ∧ MapB w' b n (fun i => !decide (i = k) && f i) ∧ w.grownBy w' (some b) := by
  obtain ⟨D, h1, h2⟩ := h.out
  obtain ⟨w', r, o, g⟩ := h1.drop int_keys Try.underlying61 (keyOf_int_mk (a := k) Try.underlying3 (WalkArith.wf_i64 hk)) 0
  refine ⟨w', fun ty => r, ⟨_, o, fun i hi => ?_⟩, ?_⟩
  · by_cases e : i = k
    · subst e
      rw [decide_eq_true rfl]
      exact atKey_del_same _
    · rw [decide_eq_false e, atKey_del_other (fun h => e (by injection h))]
      exact h2 i hi
  · obtain ⟨es, clock, es', clock', hb, rfl⟩ := g
    exact ⟨rfl, rfl, rfl, by simp [setBlock], fun i _ hi => heap_setBlock_other hb _ (fun e => hi (by rw [e]))⟩
theorem MapB.to {g : Int → Bool} (h : MapB w b n f) (hg : ∀ k, I64 k → f k = g k) : MapB w b n g := by
  obtain ⟨D, h1, h2⟩ := h.out
  exact ⟨D, h1, fun k hk => by rw [h2 k hk, hg k hk]⟩
theorem MapB.len (h : MapB w b n f) : ∃ m : Nat, (∀ ty, (Builtin.len_ #[61] ty #[.map (some b)]).run Try.prog w = .ok (.int .i64 m) w) ∧ (m = 0 → ∀ k, I64 k → f k = false) := by
  obtain ⟨D, h1, h2⟩ := h.out
  refine ⟨Maps.size D, fun ty => h1.len Try.underlying61 ty, fun h0 k hk => ?_⟩
  obtain ⟨es, rfl⟩ := h1.isMap
  have he : es = [] := by
    cases es with
    | nil => rfl
    | cons x l => simp [Maps.size] at h0
  subst he
  have := h2 k hk
  simp [DataW.atKey] at this
  exact this
end
end Go.Proofs.Ytoohconipcleiaa
