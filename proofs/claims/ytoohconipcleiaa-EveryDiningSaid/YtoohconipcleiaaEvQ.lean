/- The visitors of the walk, plain: which ends there can be, and the way to one. No program. -/
import Derived.Test.YtoohconipcleiaaEvP
namespace Go.Proofs.Ytoohconipcleiaa

/-- An end: its state, whether it is done, whether it is stuck. -/
abbrev EnD := PS × Bool × Bool
instance : Inhabited EnD := ⟨(PS.first, false, false)⟩
def enE (e : EnD) : Array Value := endC e.1 e.2.1 e.2.2
def enS (p : List (List Ev)) (s : PS) : EnD := (s, doneB p s, stuckB p s)
def lastB (p : List (List Ev)) (s : PS) : Bool := doneB p s || stuckB p s
open Classical in
noncomputable def inE (out : List EnD) (e : EnD) : Bool := decide (∃ x ∈ out, enE x = enE e)
/-- Who looks for all ends. -/
noncomputable def goE (p : List (List Ev)) (out : List EnD) (s : PS) (_ : List Int) : List EnD × Bool :=
  (if lastB p s = true ∧ inE out (enS p s) = false then out ++ [enS p s] else out, true)
noncomputable def outP (p : List (List Ev)) : List EnD := (walkP p (goE p) []).1.2
theorem inE_iff {out : List EnD} {e : EnD} : inE out e = true ↔ ∃ x ∈ out, enE x = enE e := by simp [inE]
structure OutI (p : List (List Ev)) (z : List PS × List EnD) : Prop where
  of : ∀ x ∈ z.2, ∃ s picks, AtP p s picks ∧ x = enS p s ∧ lastB p s = true
  all : ∀ s ∈ z.1, lastB p s = true → inE z.2 (enS p s) = true
  one : z.2.Pairwise fun x y => enE x ≠ enE y
theorem out_inv {p : List (List Ev)} (hp : OkP p) : OutI p (walkP p (goE p) []).1 ∧ (walkP p (goE p) []).2 = true := by
  refine dfs_ind (go := goE p) hp (R := fun r => OutI p r.1 ∧ r.2 = true) ?_ 11 ([], []) PS.first [] ⟨⟨fun x hx => by simp at hx, fun s hs => by simp at hs, List.Pairwise.nil⟩, rfl⟩ (AtP.first hp)
  rintro ⟨A, out⟩ s picks ⟨hI, _⟩ hs hn
  refine ⟨?_, rfl⟩
  show OutI p (A ++ [s], (goE p out s picks).1)
  unfold goE
  by_cases c : lastB p s = true ∧ inE out (enS p s) = false
  · simp only [if_pos c]
    refine ⟨fun x hx => ?_, fun s' hs' hl => ?_, ?_⟩
    · rcases List.mem_append.1 hx with h | h
      · exact hI.of x h
      · rw [List.mem_singleton.1 h]; exact ⟨s, picks, hs, rfl, c.1⟩
    · rw [inE_iff]
      rcases List.mem_append.1 hs' with h | h
      · obtain ⟨x, hx, e⟩ := inE_iff.1 (hI.all s' h hl)
        exact ⟨x, List.mem_append.2 (Or.inl hx), e⟩
      · rw [List.mem_singleton.1 h]; exact ⟨enS p s, by simp, rfl⟩
    · rw [List.pairwise_append]
      refine ⟨hI.one, List.pairwise_singleton _ _, fun x hx y hy => ?_⟩
      rw [List.mem_singleton.1 hy]
      intro e
      have := inE_iff.2 ⟨x, hx, e⟩
      rw [c.2] at this; cases this
  · simp only [if_neg c]
    refine ⟨hI.of, fun s' hs' hl => ?_, hI.one⟩
    rcases List.mem_append.1 hs' with h | h
    · exact hI.all s' h hl
    · rw [List.mem_singleton.1 h] at hl ⊢
      cases h2 : inE out (enS p s)
      · exact absurd ⟨hl, h2⟩ c
      · rfl
theorem out_len {p : List (List Ev)} (hp : OkP p) : (outP p).length < 2000000000 := by
  have h1 : (walkP p (goE p) []).1.2.length ≤ (walkP p (goE p) []).1.1.length := by
    refine dfs_ind (go := goE p) hp (R := fun r => r.1.2.length ≤ r.1.1.length) ?_ 11 ([], []) PS.first [] (Nat.le_refl _) (AtP.first hp)
    rintro ⟨A, out⟩ s picks h _ _
    show (if _ then out ++ [enS p s] else out).length ≤ (A ++ [s]).length
    have h : out.length ≤ A.length := h
    split <;> simp <;> omega
  have h2 := dfs_len (p := p) (go := goE p) hp.six 11 ([], []) PS.first []
  have h3 : (dfs p (goE p) 11 ([], []) PS.first []).1.1.length + 1 ≤ 0 + 7 ^ 11 := h2
  have h4 : (7 : Nat) ^ 11 = 1977326743 := by decide
  have h5 : (walkP p (goE p) []).1.1.length + 1 ≤ 0 + 7 ^ 11 := h3
  show (walkP p (goE p) []).1.2.length < _
  omega
/-- Each end of a run is there. -/
theorem out_has {p : List (List Ev)} (hp : OkP p) (ht : totL p ≤ 10) (picks : List Int) (h : lastB p (runP p picks).1 = true) : ∃ x ∈ outP p, enE x = enE (enS p (runP p picks).1) := by
  obtain ⟨hI, hok⟩ := out_inv hp
  exact inE_iff.1 (hI.all _ (walk_all hp ht hok picks) h)
theorem still_last {p : List (List Ev)} {s : PS} (h : ∀ t, t < p.length → canB p s (t : Nat) = false) : lastB p s = true := by
  unfold lastB stuckB
  cases hd : doneB p s
  · rw [Bool.false_or, Bool.and_eq_true]
    refine ⟨List.all_eq_true.2 fun t ht => ?_, rfl⟩
    rw [h t (List.mem_range.1 ht)]; rfl
  · rfl
/-- A run can be led on to an end. -/
theorem AtP.on {p : List (List Ev)} (hp : OkP p) : ∀ (n : Nat) {s : PS} {picks : List Int}, AtP p s picks → totL p ≤ sumA s + n → ∃ s' q, AtP p s' (picks ++ q) ∧ lastB p s' = true := by
  intro n
  induction n with
  | zero =>
    intro s picks h hn
    refine ⟨s, [], by simpa using h, still_last fun t ht => ?_⟩
    cases hc : canB p s (t : Nat)
    · rfl
    · have ht6 : t < 6 := by have := hp.six; omega
      have h1 := (h.step hp hc).ip
      have h2 := sumA_tot h1
      rw [sumA_step p s ht6] at h2
      omega
  | succ n ih =>
    intro s picks h hn
    by_cases c : ∀ t, t < p.length → canB p s (t : Nat) = false
    · exact ⟨s, [], by simpa using h, still_last c⟩
    · obtain ⟨t, c⟩ := Classical.not_forall.1 c
      obtain ⟨ht, c⟩ := Classical.not_imp.1 c
      have hc : canB p s (t : Nat) = true := by simpa using c
      have ht6 : t < 6 := by have := hp.six; omega
      obtain ⟨s', q, h1, h2⟩ := ih (h.step hp hc) (by rw [sumA_step p s ht6]; omega)
      exact ⟨s', (t : Int) :: q, by simpa using h1, h2⟩
theorem out_some {p : List (List Ev)} (hp : OkP p) (ht : totL p ≤ 10) : outP p ≠ [] := by
  obtain ⟨s, q, h1, h2⟩ := (AtP.first hp).on hp (totL p) (by omega)
  obtain ⟨x, hx, _⟩ := out_has hp ht ([] ++ q) (by rw [h1.run]; exact h2)
  exact fun e => by rw [e] at hx; simp at hx

/-! The way to an end. -/
open Classical in
noncomputable def fitB (p : List (List Ev)) (e : Array Value) (s : PS) : Bool := lastB p s && decide (enE (enS p s) = e)
noncomputable def goW (p : List (List Ev)) (e : Array Value) (v : Option (List Int)) (s : PS) (picks : List Int) : Option (List Int) × Bool :=
  if fitB p e s = true then (some picks, false) else (v, v.isNone)
theorem fitB_iff {p : List (List Ev)} {e : Array Value} {s : PS} : fitB p e s = true ↔ lastB p s = true ∧ enE (enS p s) = e := by simp [fitB]
theorem way_found {p : List (List Ev)} {e : Array Value} (hp : OkP p) (ht : totL p ≤ 10) (picks : List Int) (h : fitB p e (runP p picks).1 = true) :
    ∃ s way, (walkP p (goW p e) none).1.2 = some way ∧ AtP p s way ∧ fitB p e s = true := by
  have hR := dfs_ind (go := goW p e) hp (R := fun r => (r.2 = true → r.1.2 = none ∧ ∀ x ∈ r.1.1, fitB p e x = false) ∧ (r.2 = false → ∃ s way, r.1.2 = some way ∧ AtP p s way ∧ fitB p e s = true)) (by
    rintro ⟨A, v⟩ s picks ⟨h1, _⟩ hs hn
    obtain ⟨rfl, h1⟩ := h1 rfl
    show (_ → (goW p e none s picks).1 = none ∧ _) ∧ _
    unfold goW
    dsimp only
    by_cases c : fitB p e s = true
    · simp only [if_pos c]
      exact ⟨fun h => (by cases h), fun _ => ⟨s, picks, rfl, hs, c⟩⟩
    · simp only [if_neg c]
      refine ⟨fun _ => ⟨by first | rfl | trivial, fun x hx => ?_⟩, fun h => by cases h⟩
      rcases List.mem_append.1 hx with h | h
      · exact h1 x h
      · rw [List.mem_singleton.1 h]; simpa using c) 11 ([], none) PS.first [] ⟨fun _ => ⟨rfl, fun x hx => by simp at hx⟩, fun h => by cases h⟩ (AtP.first hp)
  cases hok : (walkP p (goW p e) none).2
  · exact hR.2 hok
  · have := (hR.1 hok).2 _ (walk_all hp ht hok picks)
    rw [h] at this; cases this
end Go.Proofs.Ytoohconipcleiaa
