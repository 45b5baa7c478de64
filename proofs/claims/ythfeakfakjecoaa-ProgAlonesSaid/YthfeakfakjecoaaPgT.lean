/- Each event of a run: its thread is one of the program's, and an op of that thread, behind the one that told the thread's last event, tells it. No program. -/
import Derived.Test.YthfeakfakjecoaaPgR
namespace Go.Proofs.Ythfeakfakjecoaa

theorem doOp_thread {p : List (List Ev)} {s : PS} {t : Nat} {o e : Ev} (h : (doOp p s t o).2 = some e) : e.t = t := by
  unfold doOp at h
  (repeat' split at h) <;> first | (cases h; done) | (simp only [Option.some.injEq] at h; subst h; rfl)
/-- What the law asks of each event. -/
def OrdR (p : List (List Ev)) (l : List Ev) : Prop :=
  ∀ j (h : j < l.length), 0 ≤ l[j].t ∧ l[j].t < p.length ∧ findF (opsP p l[j].t.toNat) l[j] ((replay p (l.take j)).at_ l[j].t.toNat) < plen p l[j].t.toNat
theorem runP_order {p : List (List Ev)} (hp : OkP p) (picks : List Int) : OrdR p (runP p picks).2 := by
  refine (run_ind hp (Q := fun r => InvR p r.1 (replay p r.2) ∧ OrdR p r.2) ⟨InvR.first p, fun j h => absurd h (Nat.not_lt_zero _)⟩ ?_ picks).2.2
  intro r t hI ⟨h, hO⟩ hc
  obtain ⟨h1, h2⟩ := InvR.step hp hI h hc
  have hn := canB_next hc
  have hI' := hI.step hp hn
  obtain ⟨t0, t1, _, _⟩ := nextB_iff.1 hn
  cases he : (stepP p r.1 t.toNat).2 with
  | none =>
    simp only [Option.toList_none, List.append_nil]
    exact ⟨h1 he, hO⟩
  | some e =>
    simp only [Option.toList_some, replay_snoc]
    refine ⟨h2 e he, fun j hj => ?_⟩
    by_cases hlt : j < r.2.length
    · have := hO j hlt
      rw [List.getElem_append_left hlt, List.take_append_of_le_length (Nat.le_of_lt hlt)]
      exact this
    · have hje : j = r.2.length := by simp at hj; omega
      subst hje
      have ht : e.t = (t.toNat : Int) := doOp_thread he
      have e1 : e.t.toNat = t.toNat := by omega
      simp only [List.getElem_concat_length, List.take_left']
      refine ⟨by omega, by omega, ?_⟩
      have hle := (h2 e he).le e.t.toNat
      have hat : (rstep p (replay p r.2) e).at_ e.t.toNat = findF (opsP p e.t.toNat) e ((replay p r.2).at_ e.t.toNat) + 1 := by
        show upN _ _ _ _ = _
        rw [upN_same]
      rw [hat] at hle
      have := hI'.at_le e.t.toNat
      omega
theorem rstep_at (p : List (List Ev)) (r : RS) (x : Ev) : (rstep p r x).at_ = upN r.at_ x.t.toNat (findF (opsP p x.t.toNat) x (r.at_ x.t.toNat) + 1) := rfl
theorem replay_le {p : List (List Ev)} {l : List Ev} (h : OrdR p l) : ∀ j, j ≤ l.length → ∀ t, (replay p (l.take j)).at_ t ≤ plen p t := by
  intro j
  induction j with
  | zero => intro _ t; simp [replay, RS.first]
  | succ j ih =>
    intro hj t
    have hlt : j < l.length := by omega
    rw [List.take_succ_eq_append_getElem hlt, replay_snoc, rstep_at]
    obtain ⟨_, _, h3⟩ := h j hlt
    by_cases e : t = l[j].t.toNat
    · subst e; rw [upN_same]; omega
    · rw [upN_ne e]; exact ih (by omega) t
theorem findF_ge (z : List Ev) (x : Ev) (i : Nat) : i ≤ findF z x i := Nat.le_add_right _ _
theorem findF_lo {z : List Ev} {x : Ev} {i m : Nat} (h1 : i ≤ m) (h2 : m < findF z x i) (hm : m < z.length) : matchB z[m] x = false := by
  unfold findF at h2
  have h3 : m - i < (z.drop i).findIdx (matchB · x) := by omega
  have := List.not_of_lt_findIdx h3
  have e : (z.drop i)[m - i]'(by simp; omega) = z[m] := by rw [List.getElem_drop]; congr 1; omega
  rw [e] at this
  simpa using this
theorem findF_hi {z : List Ev} {x : Ev} {i : Nat} (h : findF z x i < z.length) : matchB z[findF z x i] x = true := by
  have hlt : (z.drop i).findIdx (matchB · x) < (z.drop i).length := by unfold findF at h; simp; omega
  have := List.findIdx_getElem (w := hlt)
  rw [List.getElem_drop] at this
  exact this
end Go.Proofs.Ythfeakfakjecoaa
