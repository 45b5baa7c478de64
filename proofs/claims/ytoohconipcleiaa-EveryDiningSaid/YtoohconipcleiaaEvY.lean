/- What all ends are: a program of one addition; each end told once; a program that dines. No program. -/
import Derived.Test.YtoohconipcleiaaEvQ
import Derived.Test.YtoohconipcleiaaMF
namespace Go.Proofs.Ytoohconipcleiaa

/-- The answer of Ends: all ends in some order. -/
structure AllE (p : List (List Ev)) (all : List EnD) : Prop where
  perm : all.Perm (outP p)
  ok : OkP p
  small : totL p ≤ 10
theorem AllE.nonempty {p : List (List Ev)} {all : List EnD} (h : AllE p all) : all ≠ [] := fun e => by
  have := h.perm
  rw [e] at this
  exact out_some h.ok h.small this.symm.eq_nil
theorem AllE.of {p : List (List Ev)} {all : List EnD} (h : AllE p all) {x : EnD} (hx : x ∈ all) : ∃ s picks, AtP p s picks ∧ x = enS p s ∧ lastB p s = true := (out_inv h.ok).1.of x (h.perm.mem_iff.1 hx)
theorem AllE.has {p : List (List Ev)} {all : List EnD} (h : AllE p all) (picks : List Int) (hl : lastB p (runP p picks).1 = true) : inE all (enS p (runP p picks).1) = true := by
  obtain ⟨x, hx, e⟩ := out_has h.ok h.small picks hl
  exact inE_iff.2 ⟨x, h.perm.mem_iff.2 hx, e⟩
theorem AllE.one {p : List (List Ev)} {all : List EnD} (h : AllE p all) : all.Pairwise fun x y => enE x ≠ enE y :=
  (List.Perm.pairwise_iff (fun {_ _} hne => Ne.symm hne) h.perm).2 (out_inv h.ok).1.one
/-- One addition. -/
def pOne : List (List Ev) := [[⟨3, 0, 1⟩]]
theorem pOne_ok : OkP pOne := ⟨by decide, by decide, by decide, by decide⟩
theorem pOne_tot : totL pOne = 1 := by decide
theorem pOne_last {s : PS} {picks : List Int} (h : AtP pOne s picks) (hl : lastB pOne s = true) : s = (stepP pOne PS.first 0).1 := by
  have h1 := sumA_tot h.ip
  rw [pOne_tot] at h1
  have h2 := h.len
  have h3 := h.run
  match picks, h2, h3 with
  | [], _, h3 =>
    have h3 : PS.first = s := h3
    rw [← h3] at hl
    exact absurd hl (by decide)
  | [t], h2, h3 =>
    have h3 : (pickP pOne (PS.first, []) t).1 = s := h3
    cases hc : canB pOne PS.first t
    · rw [pickP_no hc] at h3
      have h3 : PS.first = s := h3
      rw [← h3] at h2
      simp [sumA, PS.first] at h2
    · rw [pickP_yes hc] at h3
      have := nextB_iff.1 (canB_next hc)
      have h5 : (pOne.length : Int) = 1 := rfl
      have h4 : t.toNat = 0 := by omega
      rw [h4] at h3
      exact h3.symm
  | _ :: _ :: _, h2, _ => simp at h2; omega
theorem everied_out {all : List EnD} (h : AllE pOne all) : ∃ x, all = [x] ∧ x.1.has 0 = 1 ∧ x.2.1 = true ∧ NumOk x.1 := by
  have key : ∀ x ∈ all, x = enS pOne (stepP pOne PS.first 0).1 := fun x hx => by
    obtain ⟨s, picks, h1, h2, h3⟩ := h.of hx
    rw [h2, pOne_last h1 h3]
  have hone := h.one
  have hne := h.nonempty
  match all, key, hone, hne with
  | [], _, _, hne => exact absurd rfl hne
  | [x], key, _, _ =>
    refine ⟨x, rfl, ?_, ?_, ?_⟩
    · rw [key x (by simp)]; rfl
    · rw [key x (by simp)]; rfl
    · obtain ⟨s, picks, h1, h2, _⟩ := h.of (x := x) (by simp)
      rw [h2]
      have := h1.small
      have h3 := sumA_le h.ok h1.ip
      rw [← h1.len] at h3
      exact this.ok (by omega)
  | x :: y :: l, key, hone, _ =>
    have h1 := key x (by simp)
    have h2 := key y (by simp)
    simp only [List.pairwise_cons] at hone
    exact absurd (by rw [h1, h2]) (hone.1 y (by simp))
/-! Two who take two locks. -/
def eatsP (a b : Nat) : List Ev := [⟨4, a, 0⟩, ⟨4, b, 0⟩, ⟨5, b, 0⟩, ⟨5, a, 0⟩]
def dineP (a b : Nat) (turned : Bool) : List (List Ev) := [⟨6, 1, 0⟩ :: eatsP a b, if turned then eatsP b a else eatsP a b]
end Go.Proofs.Ytoohconipcleiaa
