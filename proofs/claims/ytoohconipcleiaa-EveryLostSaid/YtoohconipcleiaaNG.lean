/- Joined texts. -/
import Derived.Test.YtoohconipcleiaaNF
import Derived.Test.YtoohconipcleiaaMF
import Derived.Test.YtoohconipcleiaaMO

/- The visitors of the walk, plain: which ends there can be, and the way to one. No program. -/
namespace Go.Proofs.Ytoohconipcleiaa

/-- An end: its state, whether it is done, whether it is stuck. -/
abbrev EnD := PS × Bool × Bool
instance : Inhabited EnD := ⟨(PS.first, false, false)⟩
def enE (e : EnD) : Array Value := endC e.1 e.2.1 e.2.2
def enS (p : List (List Ev)) (s : PS) : EnD := (s, doneB p s, stuckB p s)
def lastB (p : List (List Ev)) (s : PS) : Bool := doneB p s || stuckB p s
open Classical in
noncomputable def inE (out : List EnD) (e : EnD) : Bool := decide (∃ x ∈ out, enE x = enE e)
/-- Who looks for all ends. -/
noncomputable def goE (p : List (List Ev)) (out : List EnD) (s : PS) (_ : List Int) : List EnD × Bool :=
  (if lastB p s = true ∧ inE out (enS p s) = false then out ++ [enS p s] else out, true)
noncomputable def outP (p : List (List Ev)) : List EnD := (walkP p (goE p) []).1.2
theorem inE_iff {out : List EnD} {e : EnD} : inE out e = true ↔ ∃ x ∈ out, enE x = enE e := by simp [inE]
structure OutI (p : List (List Ev)) (z : List PS × List EnD) : Prop where
  of : ∀ x ∈ z.2, ∃ s picks, AtP p s picks ∧ x = enS p s ∧ lastB p s = true
  all : ∀ s ∈ z.1, lastB p s = true → inE z.2 (enS p s) = true
  one : z.2.Pairwise fun x y => enE x ≠ enE y
theorem out_inv {p : List (List Ev)} (hp : OkP p) : OutI p (walkP p (goE p) []).1 ∧ (walkP p (goE p) []).2 = true := by
  refine dfs_ind (go := goE p) hp (R := fun r => OutI p r.1 ∧ r.2 = true) ?_ 11 ([], []) PS.first [] ⟨⟨fun x hx => by simp at hx, fun s hs => by simp at hs, List.Pairwise.nil⟩, rfl⟩ (AtP.first hp)
  rintro ⟨A, out⟩ s picks ⟨hI, _⟩ hs hn
  refine ⟨?_, rfl⟩
  show OutI p (A ++ [s], (goE p out s picks).1)
  unfold goE
  by_cases c : lastB p s = true ∧ inE out (enS p s) = false
  · simp only [if_pos c]
    refine ⟨fun x hx => ?_, fun s' hs' hl => ?_, ?_⟩
    · rcases List.mem_append.1 hx with h | h
      · exact hI.of x h
      · rw [List.mem_singleton.1 h]; exact ⟨s, picks, hs, rfl, c.1⟩
    · rw [inE_iff]
      rcases List.mem_append.1 hs' with h | h
      · obtain ⟨x, hx, e⟩ := inE_iff.1 (hI.all s' h hl)
        exact ⟨x, List.mem_append.2 (Or.inl hx), e⟩
      · rw [List.mem_singleton.1 h]; exact ⟨enS p s, by simp, rfl⟩
    · rw [List.pairwise_append]
      refine ⟨hI.one, List.pairwise_singleton _ _, fun x hx y hy => ?_⟩
      rw [List.mem_singleton.1 hy]
      intro e
      have := inE_iff.2 ⟨x, hx, e⟩
      rw [c.2] at this; cases this
  · simp only [if_neg c]
    refine ⟨hI.of, fun s' hs' hl => ?_, hI.one⟩
    rcases List.mem_append.1 hs' with h | h
    · exact hI.all s' h hl
    · rw [List.mem_singleton.1 h] at hl ⊢
      cases h2 : inE out (enS p s)
      · exact absurd ⟨hl, h2⟩ c
      · rfl
theorem out_len {p : List (List Ev)} (hp : OkP p) : (outP p).length < 2000000000 := by
  have h1 : (walkP p (goE p) []).1.2.length ≤ (walkP p (goE p) []).1.1.length := by
    refine dfs_ind (go := goE p) hp (R := fun r => r.1.2.length ≤ r.1.1.length) ?_ 11 ([], []) PS.first [] (Nat.le_refl _) (AtP.first hp)
    rintro ⟨A, out⟩ s picks h _ _
    show (if _ then out ++ [enS p s] else out).length ≤ (A ++ [s]).length
    have h : out.length ≤ A.length := h
    split <;> simp <;> omega
  have h2 := dfs_len (p := p) (go := goE p) hp.six 11 ([], []) PS.first []
  have h3 : (dfs p (goE p) 11 ([], []) PS.first []).1.1.length + 1 ≤ 0 + 7 ^ 11 := h2
  have h4 : (7 : Nat) ^ 11 = 1977326743 := by decide
  have h5 : (walkP p (goE p) []).1.1.length + 1 ≤ 0 + 7 ^ 11 := h3
  show (walkP p (goE p) []).1.2.length < _
  omega
/-- Each end of a run is there. -/
theorem out_has {p : List (List Ev)} (hp : OkP p) (ht : totL p ≤ 10) (picks : List Int) (h : lastB p (runP p picks).1 = true) : ∃ x ∈ outP p, enE x = enE (enS p (runP p picks).1) := by
  obtain ⟨hI, hok⟩ := out_inv hp
  exact inE_iff.1 (hI.all _ (walk_all hp ht hok picks) h)
theorem still_last {p : List (List Ev)} {s : PS} (h : ∀ t, t < p.length → canB p s (t : Nat) = false) : lastB p s = true := by
  unfold lastB stuckB
  cases hd : doneB p s
  · rw [Bool.false_or, Bool.and_eq_true]
    refine ⟨List.all_eq_true.2 fun t ht => ?_, rfl⟩
    rw [h t (List.mem_range.1 ht)]; rfl
  · rfl
/-- A run can be led on to an end. -/
theorem AtP.on {p : List (List Ev)} (hp : OkP p) : ∀ (n : Nat) {s : PS} {picks : List Int}, AtP p s picks → totL p ≤ sumA s + n → ∃ s' q, AtP p s' (picks ++ q) ∧ lastB p s' = true := by
  intro n
  induction n with
  | zero =>
    intro s picks h hn
    refine ⟨s, [], by simpa using h, still_last fun t ht => ?_⟩
    cases hc : canB p s (t : Nat)
    · rfl
    · have ht6 : t < 6 := by have := hp.six; omega
      have h1 := (h.step hp hc).ip
      have h2 := sumA_tot h1
      rw [sumA_step p s ht6] at h2
      omega
  | succ n ih =>
    intro s picks h hn
    by_cases c : ∀ t, t < p.length → canB p s (t : Nat) = false
    · exact ⟨s, [], by simpa using h, still_last c⟩
    · obtain ⟨t, c⟩ := Classical.not_forall.1 c
      obtain ⟨ht, c⟩ := Classical.not_imp.1 c
      have hc : canB p s (t : Nat) = true := by simpa using c
      have ht6 : t < 6 := by have := hp.six; omega
      obtain ⟨s', q, h1, h2⟩ := ih (h.step hp hc) (by rw [sumA_step p s ht6]; omega)
      exact ⟨s', (t : Int) :: q, by simpa using h1, h2⟩
theorem out_some {p : List (List Ev)} (hp : OkP p) (ht : totL p ≤ 10) : outP p ≠ [] := by
  obtain ⟨s, q, h1, h2⟩ := (AtP.first hp).on hp (totL p) (by omega)
  obtain ⟨x, hx, _⟩ := out_has hp ht ([] ++ q) (by rw [h1.run]; exact h2)
  exact fun e => by rw [e] at hx; simp at hx

/-! The way to an end. -/
open Classical in
noncomputable def fitB (p : List (List Ev)) (e : Array Value) (s : PS) : Bool := lastB p s && decide (enE (enS p s) = e)
noncomputable def goW (p : List (List Ev)) (e : Array Value) (v : Option (List Int)) (s : PS) (picks : List Int) : Option (List Int) × Bool :=
  if fitB p e s = true then (some picks, false) else (v, v.isNone)
theorem fitB_iff {p : List (List Ev)} {e : Array Value} {s : PS} : fitB p e s = true ↔ lastB p s = true ∧ enE (enS p s) = e := by simp [fitB]
theorem way_found {p : List (List Ev)} {e : Array Value} (hp : OkP p) (ht : totL p ≤ 10) (picks : List Int) (h : fitB p e (runP p picks).1 = true) :
    ∃ s way, (walkP p (goW p e) none).1.2 = some way ∧ AtP p s way ∧ fitB p e s = true := by
  have hR := dfs_ind (go := goW p e) hp (R := fun r => (r.2 = true → r.1.2 = none ∧ ∀ x ∈ r.1.1, fitB p e x = false) ∧ (r.2 = false → ∃ s way, r.1.2 = some way ∧ AtP p s way ∧ fitB p e s = true)) (by
    rintro ⟨A, v⟩ s picks ⟨h1, _⟩ hs hn
    obtain ⟨rfl, h1⟩ := h1 rfl
    show (_ → (goW p e none s picks).1 = none ∧ _) ∧ _
    unfold goW
    dsimp only
    by_cases c : fitB p e s = true
    · simp only [if_pos c]
      exact ⟨fun h => (by cases h), fun _ => ⟨s, picks, rfl, hs, c⟩⟩
    · simp only [if_neg c]
      refine ⟨fun _ => ⟨by first | rfl | trivial, fun x hx => ?_⟩, fun h => by cases h⟩
      rcases List.mem_append.1 hx with h | h
      · exact h1 x h
      · rw [List.mem_singleton.1 h]; simpa using c) 11 ([], none) PS.first [] ⟨fun _ => ⟨rfl, fun x hx => by simp at hx⟩, fun h => by cases h⟩ (AtP.first hp)
  cases hok : (walkP p (goW p e) none).2
  · exact hR.2 hok
  · have := (hR.1 hok).2 _ (walk_all hp ht hok picks)
    rw [h] at this; cases this
end Go.Proofs.Ytoohconipcleiaa

/- What all ends are: a program of one addition; each end told once; a program that dines. No program. -/
namespace Go.Proofs.Ytoohconipcleiaa

/-- The answer of Ends: all ends in some order. -/
structure AllE (p : List (List Ev)) (all : List EnD) : Prop where
  perm : all.Perm (outP p)
  ok : OkP p
  small : totL p ≤ 10
theorem AllE.nonempty {p : List (List Ev)} {all : List EnD} (h : AllE p all) : all ≠ [] := fun e => by
  have := h.perm
  rw [e] at this
  exact out_some h.ok h.small this.symm.eq_nil
theorem AllE.of {p : List (List Ev)} {all : List EnD} (h : AllE p all) {x : EnD} (hx : x ∈ all) : ∃ s picks, AtP p s picks ∧ x = enS p s ∧ lastB p s = true := (out_inv h.ok).1.of x (h.perm.mem_iff.1 hx)
theorem AllE.has {p : List (List Ev)} {all : List EnD} (h : AllE p all) (picks : List Int) (hl : lastB p (runP p picks).1 = true) : inE all (enS p (runP p picks).1) = true := by
  obtain ⟨x, hx, e⟩ := out_has h.ok h.small picks hl
  exact inE_iff.2 ⟨x, h.perm.mem_iff.2 hx, e⟩
theorem AllE.one {p : List (List Ev)} {all : List EnD} (h : AllE p all) : all.Pairwise fun x y => enE x ≠ enE y :=
  (List.Perm.pairwise_iff (fun {_ _} hne => Ne.symm hne) h.perm).2 (out_inv h.ok).1.one
/-- One addition. -/
def pOne : List (List Ev) := [[⟨3, 0, 1⟩]]
theorem pOne_ok : OkP pOne := ⟨by decide, by decide, by decide, by decide⟩
theorem pOne_tot : totL pOne = 1 := by decide
theorem pOne_last {s : PS} {picks : List Int} (h : AtP pOne s picks) (hl : lastB pOne s = true) : s = (stepP pOne PS.first 0).1 := by
  have h1 := sumA_tot h.ip
  rw [pOne_tot] at h1
  have h2 := h.len
  have h3 := h.run
  match picks, h2, h3 with
  | [], _, h3 =>
    have h3 : PS.first = s := h3
    rw [← h3] at hl
    exact absurd hl (by decide)
  | [t], h2, h3 =>
    have h3 : (pickP pOne (PS.first, []) t).1 = s := h3
    cases hc : canB pOne PS.first t
    · rw [pickP_no hc] at h3
      have h3 : PS.first = s := h3
      rw [← h3] at h2
      simp [sumA, PS.first] at h2
    · rw [pickP_yes hc] at h3
      have := nextB_iff.1 (canB_next hc)
      have h5 : (pOne.length : Int) = 1 := rfl
      have h4 : t.toNat = 0 := by omega
      rw [h4] at h3
      exact h3.symm
  | _ :: _ :: _, h2, _ => simp at h2; omega
theorem everied_out {all : List EnD} (h : AllE pOne all) : ∃ x, all = [x] ∧ x.1.has 0 = 1 ∧ x.2.1 = true ∧ NumOk x.1 := by
  have key : ∀ x ∈ all, x = enS pOne (stepP pOne PS.first 0).1 := fun x hx => by
    obtain ⟨s, picks, h1, h2, h3⟩ := h.of hx
    rw [h2, pOne_last h1 h3]
  have hone := h.one
  have hne := h.nonempty
  match all, key, hone, hne with
  | [], _, _, hne => exact absurd rfl hne
  | [x], key, _, _ =>
    refine ⟨x, rfl, ?_, ?_, ?_⟩
    · rw [key x (by simp)]; rfl
    · rw [key x (by simp)]; rfl
    · obtain ⟨s, picks, h1, h2, _⟩ := h.of (x := x) (by simp)
      rw [h2]
      have := h1.small
      have h3 := sumA_le h.ok h1.ip
      rw [← h1.len] at h3
      exact this.ok (by omega)
  | x :: y :: l, key, hone, _ =>
    have h1 := key x (by simp)
    have h2 := key y (by simp)
    simp only [List.pairwise_cons] at hone
    exact absurd (by rw [h1, h2]) (hone.1 y (by simp))
/-! Two who take two locks. -/
def eatsP (a b : Nat) : List Ev := [⟨4, a, 0⟩, ⟨4, b, 0⟩, ⟨5, b, 0⟩, ⟨5, a, 0⟩]
def dineP (a b : Nat) (turned : Bool) : List (List Ev) := [⟨6, 1, 0⟩ :: eatsP a b, if turned then eatsP b a else eatsP a b]
end Go.Proofs.Ytoohconipcleiaa

/- Programs without locks and signals, plain: where no run has a race, all runs end the same. No program. -/
namespace Go.Proofs.Ytoohconipcleiaa

/-- Two accesses of one variable, side by side, by two threads, one of them a Write: a race. -/
theorem race_adj {l : List Ev} {x y : Ev} (hx : x.k = 1 ∨ x.k = 2) (hy : y.k = 1 ∨ y.k = 2) (ht : x.t ≠ y.t) (ho : x.o = y.o) (hw : x.k = 2 ∨ y.k = 2) : raceL (l ++ [x, y]) ≠ [] := by
  have e1 : evAt (l ++ [x, y]) l.length = x := by simp [evAt, List.getD_eq_getElem?_getD]
  have e2 : evAt (l ++ [x, y]) (l.length + 1) = y := by simp [evAt, List.getD_eq_getElem?_getD]
  have hR : R (l ++ [x, y]) (l.length + 1) l.length = false := by
    rw [Bool.eq_false_iff]
    intro h
    obtain ⟨i, hi, hd, hc⟩ := (spec_all _ _ _).1 h
    rcases hc with e | hc
    · subst e
      rw [e1, e2, dirE_iff] at hd
      omega
    · have := R_lt hc
      omega
  have hB : raceB (l ++ [x, y]) l.length (l.length + 1) = true := by
    rw [raceB_iff, e1, e2]
    exact ⟨isAccR_iff.2 hx, isAccR_iff.2 hy, ho, hR, hw⟩
  intro h
  have : raceOf (l ++ [x, y]) l.length (l.length + 1) ∈ raceL (l ++ [x, y]) := mem_raceL.2 ⟨_, _, rfl, by omega, by simp, hB⟩
  rw [h] at this
  cases this
def NoRace (p : List (List Ev)) : Prop := ∀ picks, raceL (runP p picks).2 = []
/-- The kinds that there are without locks and signals. -/
def FreeP (p : List (List Ev)) : Prop := ∀ z ∈ p, ∀ e ∈ z, e.k ≠ 4 ∧ e.k ≠ 5 ∧ e.k ≠ 8 ∧ e.k ≠ 9
def memF (s : PS) (t : Nat) (o : Ev) : Nat → Int := if o.k = 2 then upZ s.mem o.t.toNat (s.has t) else s.mem
def hasF (s : PS) (t : Nat) (o : Ev) : Nat → Int := if o.k = 1 then upZ s.has t (s.mem o.t.toNat) else if o.k = 3 then upZ s.has t (s.has t + o.o) else s.has
def begF (p : List (List Ev)) (s : PS) (o : Ev) : Nat → Bool := if o.k = 6 ∧ o.t < p.length then upT s.begun o.t.toNat else s.begun
theorem free_kind {p : List (List Ev)} (hp : OkP p) (hf : FreeP p) {s : PS} {t : Nat} (hI : IP p s) (hn : nextB p s t = true) : (opN p s t).k = 1 ∨ (opN p s t).k = 2 ∨ (opN p s t).k = 3 ∨ (opN p s t).k = 6 ∨ (opN p s t).k = 7 := by
  have hat := nextB_at hI hn
  have hbad := nextB_op hp hI hn
  rw [Int.toNat_natCast] at hat hbad
  obtain ⟨o0, oM, _⟩ := bad_iff.1 hbad
  have hk := boundK_pos (show 0 < boundK (opN p s t).k by omega)
  obtain ⟨z, hz, he⟩ := (opA_mem hat).2
  have := hf z hz (opN p s t) he
  omega
theorem step_free {p : List (List Ev)} {s : PS} {t : Nat} (hk : (opN p s t).k = 1 ∨ (opN p s t).k = 2 ∨ (opN p s t).k = 3 ∨ (opN p s t).k = 6 ∨ (opN p s t).k = 7) :
    (stepP p s t).1 = ⟨memF s t (opN p s t), s.vols, hasF s t (opN p s t), upN s.at_ t (s.at_ t + 1), begF p s (opN p s t), s.owner⟩ := by
  unfold stepP
  generalize opN p s t = o at *
  rcases hk with k | k | k | k | k
  · rw [do1 k]; simp [memF, hasF, begF, k, tick]
  · rw [do2 k]; simp [memF, hasF, begF, k, tick]
  · rw [do3 k]; simp [memF, hasF, begF, k, tick]
  · by_cases c : o.t < p.length ∧ (tick s t).begun o.t.toNat = false
    · rw [do6y k c]; simp [memF, hasF, begF, k, tick, c.1]
    · rw [do6n k c]
      simp only [memF, hasF, begF, k, tick]
      by_cases c1 : o.t < p.length
      · have c2 : s.begun o.t.toNat = true := by
          cases h : s.begun o.t.toNat
          · exact absurd ⟨c1, h⟩ c
          · rfl
        simp [c1]
        funext i
        unfold upT
        split
        · rename_i e; rw [e]; exact c2
        · rfl
      · simp [c1]
  · rw [do7 k]; simp [memF, hasF, begF, k, tick]
/-- Accesses of one variable, one of them a Write. -/
def Conf (x y : Ev) : Prop := (x.k = 1 ∨ x.k = 2) ∧ (y.k = 1 ∨ y.k = 2) ∧ x.t = y.t ∧ (x.k = 2 ∨ y.k = 2)
theorem begF_mono {p : List (List Ev)} {s : PS} {o : Ev} {i : Nat} (h : s.begun i = true) : begF p s o i = true := by
  unfold begF
  split
  · unfold upT; split
    · rfl
    · exact h
  · exact h
theorem can_after {p : List (List Ev)} (hp : OkP p) (hf : FreeP p) {s : PS} {t u : Nat} (hI : IP p s) (htu : t ≠ u) (ht : canB p s t = true) (hu : canB p s u = true) : canB p (stepP p s t).1 u = true := by
  have hk := free_kind hp hf hI (canB_next hu)
  have hkt := free_kind hp hf hI (canB_next ht)
  have hs := step_free hkt
  have hat : (stepP p s t).1.at_ u = s.at_ u := by rw [hs]; exact upN_ne (Ne.symm htu)
  have hop : opN p (stepP p s t).1 u = opN p s u := by unfold opN; rw [hat]
  obtain ⟨u0, u1, u2, u3⟩ := nextB_iff.1 (canB_next hu)
  rw [Int.toNat_natCast] at u2 u3
  have hn : nextB p (stepP p s t).1 u = true := by
    refine nextB_iff.2 ⟨u0, u1, ?_, ?_⟩
    · rw [Int.toNat_natCast, hs]; exact begF_mono u2
    · rw [Int.toNat_natCast, hat]; exact u3
  unfold canB at hu ⊢
  rw [hn, Int.toNat_natCast, hop]
  rw [Int.toNat_natCast] at hu
  rw [Bool.and_eq_true] at hu
  have hu := hu.2
  rw [if_neg (by omega)] at hu ⊢
  by_cases k7 : (opN p s u).k = 7
  · rw [if_pos k7] at hu ⊢
    simp only [Bool.and_eq_true, decide_eq_true_eq, beq_iff_eq, Bool.true_and] at hu ⊢
    obtain ⟨⟨⟨h1, h2⟩, h3⟩, h4⟩ := hu
    refine ⟨⟨⟨h1, h2⟩, ?_⟩, ?_⟩
    · rw [hs]; exact begF_mono h3
    · by_cases e : (opN p s u).t.toNat = t
      · exfalso
        obtain ⟨_, _, _, t3⟩ := nextB_iff.1 (canB_next ht)
        rw [Int.toNat_natCast] at t3
        rw [e] at h4
        exact t3 h4
      · rw [hs]
        show upN s.at_ t _ _ = _
        rw [upN_ne e]; exact h4
  · rw [if_neg k7]; rfl
theorem upZ_swap {f : Nat → Int} {i j : Nat} (h : i ≠ j) (x y : Int) : upZ (upZ f i x) j y = upZ (upZ f j y) i x := by
  funext k
  unfold upZ
  by_cases e1 : k = i
  · subst e1; simp [h]
  · simp [e1]
theorem upN_swap {f : Nat → Nat} {i j : Nat} (h : i ≠ j) (x y : Nat) : upN (upN f i x) j y = upN (upN f j y) i x := by
  funext k
  unfold upN
  by_cases e1 : k = i
  · subst e1; simp [h]
  · simp [e1]
theorem upT_swap (f : Nat → Bool) (i j : Nat) : upT (upT f i) j = upT (upT f j) i := by
  funext k
  unfold upT
  by_cases e1 : k = i <;> by_cases e2 : k = j <;> simp [e1, e2]
theorem diamond {p : List (List Ev)} (hp : OkP p) (hf : FreeP p) {s : PS} {t u : Nat} (hI : IP p s) (htu : t ≠ u) (ht : canB p s t = true) (hu : canB p s u = true) (hno : ¬ Conf (opN p s t) (opN p s u)) :
    (stepP p (stepP p s t).1 u).1 = (stepP p (stepP p s u).1 t).1 := by
  have hkt := free_kind hp hf hI (canB_next ht)
  have hku := free_kind hp hf hI (canB_next hu)
  have hbt := nextB_op hp hI (canB_next ht)
  have hbu := nextB_op hp hI (canB_next hu)
  rw [Int.toNat_natCast] at hbt hbu
  have hst := step_free hkt
  have hsu := step_free hku
  have hat : (stepP p s t).1.at_ u = s.at_ u := by rw [hst]; exact upN_ne (Ne.symm htu)
  have hau : (stepP p s u).1.at_ t = s.at_ t := by rw [hsu]; exact upN_ne htu
  have hopu : opN p (stepP p s t).1 u = opN p s u := by unfold opN; rw [hat]
  have hopt : opN p (stepP p s u).1 t = opN p s t := by unfold opN; rw [hau]
  have h2u := step_free (p := p) (s := (stepP p s t).1) (t := u) (by rw [hopu]; exact hku)
  have h2t := step_free (p := p) (s := (stepP p s u).1) (t := t) (by rw [hopt]; exact hkt)
  rw [h2u, h2t, hopu, hopt, hat, hau, hst, hsu]
  obtain ⟨x0, _⟩ := bad_iff.1 hbt
  obtain ⟨y0, _⟩ := bad_iff.1 hbu
  generalize opN p s t = x at *
  generalize opN p s u = y at *
  clear hst hsu h2u h2t hopu hopt hat hau hbt hbu
  have hne : x.k = 2 → y.k = 2 → x.t.toNat ≠ y.t.toNat := fun a b e => hno ⟨.inr a, .inr b, by omega, .inl a⟩
  have hne1 : x.k = 1 → y.k = 2 → x.t.toNat ≠ y.t.toNat := fun a b e => hno ⟨.inl a, .inr b, by omega, .inr b⟩
  have hne2 : x.k = 2 → y.k = 1 → x.t.toNat ≠ y.t.toNat := fun a b e => hno ⟨.inr a, .inl b, by omega, .inl a⟩
  refine PS.mk.injEq .. ▸ ⟨?_, rfl, ?_, upN_swap htu _ _, ?_, rfl⟩
  · rcases hkt with k | k | k | k | k <;> rcases hku with m | m | m | m | m <;> simp [memF, hasF, k, m, upZ_ne htu, upZ_ne (Ne.symm htu)]
    exact upZ_swap (hne k m) _ _
  · rcases hkt with k | k | k | k | k <;> rcases hku with m | m | m | m | m <;> simp [memF, hasF, k, m, upZ_ne htu, upZ_ne (Ne.symm htu), upZ_swap htu]
    · rw [upZ_ne (hne1 k m)]
    · rw [upZ_ne (Ne.symm (hne2 k m))]
  · unfold begF
    by_cases c1 : x.k = 6 ∧ x.t < p.length <;> by_cases c2 : y.k = 6 ∧ y.t < p.length <;> simp only [if_pos, c1, c2, and_self, if_false]
    · exact upT_swap _ _ _
/-- What a conflict tells. -/
theorem conf_race {p : List (List Ev)} (hp : OkP p) (hf : FreeP p) {s : PS} {picks : List Int} {t u : Nat} (h : AtP p s picks) (htu : t ≠ u) (ht : canB p s t = true) (hu : canB p s u = true) (hc : Conf (opN p s t) (opN p s u)) :
    raceL (runP p (picks ++ [(t : Int)] ++ [(u : Int)])).2 ≠ [] := by
  have hI := h.ip
  have hkt := free_kind hp hf hI (canB_next ht)
  have hst := step_free hkt
  have hat : (stepP p s t).1.at_ u = s.at_ u := by rw [hst]; exact upN_ne (Ne.symm htu)
  have hopu : opN p (stepP p s t).1 u = opN p s u := by unfold opN; rw [hat]
  have hcu := can_after hp hf hI htu ht hu
  obtain ⟨c1, c2, c3, c4⟩ := hc
  have tell : ∀ (s' : PS) (v : Nat), (opN p s' v).k = 1 ∨ (opN p s' v).k = 2 → (stepP p s' v).2 = some ⟨(opN p s' v).k, v, (opN p s' v).t⟩ := by
    intro s' v hk
    unfold stepP
    generalize opN p s' v = o at *
    rcases hk with k | k
    · rw [do1 k]; simp [k]
    · rw [do2 k]; simp [k]
  have e1 := tell s t c1
  have e2 := tell (stepP p s t).1 u (by rw [hopu]; exact c2)
  rw [hopu] at e2
  rw [runP_snoc, runP_snoc, pickP_yes (r := runP p picks) (by rw [h.run]; exact ht), h.run, Int.toNat_natCast, pickP_yes (by exact hcu)]
  show raceL (((runP p picks).2 ++ (stepP p s t).2.toList) ++ (stepP p (stepP p s t).1 (u : Int).toNat).2.toList) ≠ []
  rw [Int.toNat_natCast, e1, e2]
  show raceL ((_ ++ [_]) ++ [_]) ≠ []
  rw [List.append_assoc]
  exact race_adj c1 c2 (fun e => htu (by exact Int.ofNat.inj e)) c3 c4
/-! Wherever two threads go on from a state, they meet again: all runs end the same. -/
inductive GoP (p : List (List Ev)) : PS → PS → Prop
  | refl (s : PS) : GoP p s s
  | step {s f : PS} (t : Nat) : canB p s t = true → GoP p (stepP p s t).1 f → GoP p s f
theorem GoP.snoc {p : List (List Ev)} {s f : PS} (h : GoP p s f) {t : Nat} (hc : canB p f t = true) : GoP p s (stepP p f t).1 := by
  induction h with
  | refl s => exact .step t hc (.refl _)
  | step u h1 _ ih => exact .step u h1 (ih hc)
theorem GoP.of_run (p : List (List Ev)) (picks : List Int) : GoP p PS.first (runP p picks).1 := by
  refine snoc_rec (C := fun picks => GoP p PS.first (runP p picks).1) (.refl _) ?_ picks
  intro picks t h
  rw [runP_snoc]
  cases hc : canB p (runP p picks).1 t
  · rw [pickP_no hc]; exact h
  · rw [pickP_yes hc]
    have h0 := (nextB_iff.1 (canB_next hc)).1
    obtain ⟨n, rfl⟩ : ∃ n : Nat, t = n := ⟨t.toNat, by omega⟩
    exact h.snoc hc
def Meet (p : List (List Ev)) : Prop := ∀ s picks (t u : Nat), AtP p s picks → t ≠ u → canB p s t = true → canB p s u = true →
  canB p (stepP p s t).1 u = true ∧ canB p (stepP p s u).1 t = true ∧ (stepP p (stepP p s t).1 u).1 = (stepP p (stepP p s u).1 t).1
theorem meet_free {p : List (List Ev)} (hp : OkP p) (hf : FreeP p) (hr : NoRace p) : Meet p := fun _ _ _ _ h htu ht hu =>
  ⟨can_after hp hf h.ip htu ht hu, can_after hp hf h.ip (Ne.symm htu) hu ht, diamond hp hf h.ip htu ht hu fun hc => conf_race hp hf h htu ht hu hc (hr _)⟩
theorem meet_one {z : List Ev} (_ : OkP [z]) : Meet [z] := fun s _ t u _ htu ht hu => by
  have h1 := nextB_iff.1 (canB_next ht)
  have h2 := nextB_iff.1 (canB_next hu)
  simp at h1 h2
  omega
theorem last_no {p : List (List Ev)} {s : PS} (h : lastB p s = true) (t : Int) : canB p s t = false := by
  unfold lastB at h
  rw [Bool.or_eq_true] at h
  rcases h with h | h
  · exact done_stop h t
  · exact stuck_stop h t
theorem GoP.last {p : List (List Ev)} {s f : PS} (h : GoP p s f) (hl : lastB p s = true) : f = s := by
  cases h with
  | refl => rfl
  | step t hc _ => rw [last_no hl] at hc; cases hc
theorem GoP.on {p : List (List Ev)} (hp : OkP p) : ∀ (n : Nat) {s : PS} {picks : List Int}, AtP p s picks → totL p ≤ sumA s + n → ∃ f, GoP p s f ∧ lastB p f = true := by
  intro n
  induction n with
  | zero =>
    intro s picks h hn
    refine ⟨s, .refl s, still_last fun t ht => ?_⟩
    cases hc : canB p s (t : Nat)
    · rfl
    · have ht6 : t < 6 := by have := hp.six; omega
      have h2 := sumA_tot (h.step hp hc).ip
      rw [sumA_step p s ht6] at h2
      omega
  | succ n ih =>
    intro s picks h hn
    by_cases c : ∀ t, t < p.length → canB p s (t : Nat) = false
    · exact ⟨s, .refl s, still_last c⟩
    · obtain ⟨t, c⟩ := Classical.not_forall.1 c
      obtain ⟨ht, c⟩ := Classical.not_imp.1 c
      have hc : canB p s (t : Nat) = true := by simpa using c
      have ht6 : t < 6 := by have := hp.six; omega
      obtain ⟨f, h1, h2⟩ := ih (h.step hp hc) (by rw [sumA_step p s ht6]; omega)
      exact ⟨f, .step t hc h1, h2⟩
theorem ends_meet {p : List (List Ev)} (hp : OkP p) (hm : Meet p) : ∀ (n : Nat) {s f1 f2 : PS} {picks : List Int}, AtP p s picks → totL p ≤ sumA s + n → GoP p s f1 → GoP p s f2 → lastB p f1 = true → lastB p f2 = true → f1 = f2 := by
  intro n
  induction n with
  | zero =>
    intro s f1 f2 picks h hn g1 g2 _ _
    have stop : ∀ t, canB p s (t : Nat) = false := fun t => by
      cases hc : canB p s (t : Nat)
      · rfl
      · have ht6 : t < 6 := by have := hp.six; have := nextB_iff.1 (canB_next hc); omega
        have h2 := sumA_tot (h.step hp hc).ip
        rw [sumA_step p s ht6] at h2
        omega
    have e : ∀ f, GoP p s f → f = s := fun f g => by
      cases g with
      | refl => rfl
      | step t hc _ => rw [stop] at hc; cases hc
    rw [e _ g1, e _ g2]
  | succ n ih =>
    intro s f1 f2 picks h hn g1 g2 l1 l2
    cases g1 with
    | refl => exact (g2.last l1).symm
    | step t ht g1 =>
      cases g2 with
      | refl => rw [last_no l2] at ht; cases ht
      | step u hu g2 =>
        have ht6 : t < 6 := by have := hp.six; have := nextB_iff.1 (canB_next ht); omega
        have hu6 : u < 6 := by have := hp.six; have := nextB_iff.1 (canB_next hu); omega
        have hnt : totL p ≤ sumA (stepP p s t).1 + n := by rw [sumA_step p s ht6]; omega
        have hnu : totL p ≤ sumA (stepP p s u).1 + n := by rw [sumA_step p s hu6]; omega
        have at1 := h.step hp ht
        have au1 := h.step hp hu
        by_cases e : t = u
        · subst e
          exact ih at1 hnt g1 g2 l1 l2
        · obtain ⟨m1, m2, m3⟩ := hm s picks t u h e ht hu
          obtain ⟨f3, g3, l3⟩ := GoP.on hp (totL p) (at1.step hp m1) (by omega)
          have e1 := ih at1 hnt g1 (.step u m1 g3) l1 l3
          have e2 := ih au1 hnu g2 (.step t m2 (by rw [← m3]; exact g3)) l2 l3
          rw [e1, e2]
theorem meet_all {p : List (List Ev)} (hm : Meet p) {all : List EnD} (h : AllE p all) : ∃ s picks, AtP p s picks ∧ lastB p s = true ∧ all = [enS p s] := by
  have hp := h.ok
  have key : ∀ x ∈ all, ∀ y ∈ all, x = y := fun x hx y hy => by
    obtain ⟨s1, q1, a1, e1, l1⟩ := h.of hx
    obtain ⟨s2, q2, a2, e2, l2⟩ := h.of hy
    have g1 := GoP.of_run p q1
    have g2 := GoP.of_run p q2
    rw [a1.run] at g1
    rw [a2.run] at g2
    rw [e1, e2, ends_meet hp hm (totL p) (AtP.first hp) (by omega) g1 g2 l1 l2]
  have hone := h.one
  have hne := h.nonempty
  match all, key, hone, hne, h with
  | [], _, _, hne, _ => exact absurd rfl hne
  | [x], _, _, _, h =>
    obtain ⟨s1, q1, a1, e1, l1⟩ := h.of (x := x) (by simp)
    exact ⟨s1, q1, a1, l1, by rw [e1]⟩
  | x :: y :: l, key, hone, _, _ =>
    simp only [List.pairwise_cons] at hone
    exact absurd (by rw [key x (by simp) y (by simp)]) (hone.1 y (by simp))
/-- One thread: the one end is that of a run by zeros. -/
theorem one_all_end {z : List Ev} {all : List EnD} (h : AllE [z] all) {s : PS} (hs : s = (runP [z] (List.replicate z.length 0)).1) (hl : lastB [z] s = true) : all = [enS [z] s] := by
  have hp := h.ok
  obtain ⟨s1, q1, a1, l1, e1⟩ := meet_all (meet_one hp) h
  have g1 := GoP.of_run [z] q1
  have g2 := GoP.of_run [z] (List.replicate z.length 0)
  rw [a1.run] at g1
  rw [← hs] at g2
  rw [e1, ends_meet hp (meet_one hp) (totL [z]) (AtP.first hp) (by omega) g1 g2 l1 hl]
end Go.Proofs.Ytoohconipcleiaa
