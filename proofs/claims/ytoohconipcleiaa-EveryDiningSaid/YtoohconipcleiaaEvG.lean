/- Who takes locks in one order, gives all of them back and waits for nobody else is never stuck, plain. No program. -/
import Derived.Test.YtoohconipcleiaaEvP
import Derived.Test.YtoohconipcleiaaAlP
import Derived.Test.YtoohconipcleiaaRgR
namespace Go.Proofs.Ytoohconipcleiaa

theorem runP_lockC {p : List (List Ev)} (hp : OkP p) (picks : List Int) : LockC p (runP p picks).1 := (run_ind hp (Q := fun r => LockC p r.1) (LockC.first p) (fun _ _ _ h _ => h.step) picks).2
/-- A thread's text: it waits for nobody, takes no lock that it has, has none in the end. -/
structure GoodZ (z : List Ev) : Prop where
  join : ∀ i, i < z.length → (ev0 z i).k ≠ 7
  once : ∀ i, i < z.length → (ev0 z i).k = 4 → (alN z i).1 (ev0 z i).t.toNat = false
  none : ∀ L, (alN z z.length).1 L = false
def allPr (p : List (List Ev)) : List (Int × Int) := p.flatMap alOut
theorem mem_allPr {p : List (List Ev)} {t : Nat} (ht : t < p.length) {x : Int × Int} (h : x ∈ alOut (opsP p t)) : x ∈ allPr p := by
  refine List.mem_flatMap.2 ⟨p[t], List.getElem_mem ht, ?_⟩
  have : opsP p t = p[t] := by unfold opsP; simp [ht]
  rwa [this] at h
/-- A thread waits for a lock that somebody has. -/
structure WaitL (p : List (List Ev)) (s : PS) (t L : Nat) : Prop where
  next : nextB p s (t : Nat) = true
  k : (opN p s t).k = 4
  obj : (opN p s t).t.toNat = L
  lt : L < 5
  own : s.owner L ≠ 0
theorem wait_of {p : List (List Ev)} {s : PS} (hp : OkP p) (hI : IP p s) (hg : ∀ t, t < p.length → GoodZ (opsP p t)) {t : Nat} (hn : nextB p s (t : Nat) = true) (hc : canB p s (t : Nat) = false) : ∃ L, WaitL p s t L := by
  obtain ⟨_, t1, _, _⟩ := nextB_iff.1 hn
  have htl : t < p.length := by omega
  have hat := nextB_at hI hn
  have hbad := nextB_op hp hI hn
  rw [Int.toNat_natCast] at hat hbad
  obtain ⟨o0, oM, _⟩ := bad_iff.1 hbad
  have hk7 : (opN p s t).k ≠ 7 := (hg t htl).join _ hat
  have hk4 : (opN p s t).k = 4 := by
    by_cases c : (opN p s t).k = 4
    · exact c
    · exfalso
      unfold canB at hc
      rw [hn, Int.toNat_natCast, if_neg c, if_neg hk7] at hc
      cases hc
  unfold canB at hc
  rw [hn, Int.toNat_natCast, if_pos hk4, Bool.true_and] at hc
  refine ⟨(opN p s t).t.toNat, hn, hk4, rfl, ?_, by simpa using hc⟩
  rw [hk4] at oM
  have : (opN p s t).t < 5 := oM
  omega
theorem wait_next {p : List (List Ev)} {s : PS} (hp : OkP p) (hI : IP p s) (hL : LockC p s) (hg : ∀ t, t < p.length → GoodZ (opsP p t)) (hs : ∀ t : Nat, canB p s (t : Nat) = false) {t L : Nat} (h : WaitL p s t L) :
    ∃ u M, WaitL p s u M ∧ edgeP (allPr p) L M = true := by
  obtain ⟨w0, w1⟩ := hI.own L
  have hw := h.own
  obtain ⟨u, hu⟩ : ∃ u : Nat, s.owner L = (u : Int) + 1 := ⟨(s.owner L - 1).toNat, by omega⟩
  have hul : u < p.length := by omega
  have hh := hL u L hu
  obtain ⟨j, hj, _⟩ := id hh
  have hbg : s.begun u = true := by
    cases hb : s.begun u
    · have := (hI.fresh u hb).1
      omega
    · rfl
  have hne : s.at_ u ≠ plen p u := fun e => by
    have h1 := (hg u hul).none L
    have h2 := (alN_held (opsP p u) (s.at_ u) L).2 ((heldZ_op p u _ _).1 hh)
    rw [e, ← opsP_len] at h2
    rw [h1] at h2; cases h2
  have hn : nextB p s (u : Nat) = true := nextB_iff.2 ⟨by omega, by omega, by rw [Int.toNat_natCast]; exact hbg, by rw [Int.toNat_natCast]; exact hne⟩
  obtain ⟨M, hM⟩ := wait_of hp hI hg hn (hs u)
  refine ⟨u, M, hM, ?_⟩
  have hat := nextB_at hI hn
  rw [Int.toNat_natCast] at hat
  have hon := (hg u hul).once _ (by rw [opsP_len]; exact hat) hM.k
  have hW : (alN (opsP p u) (plen p u)).2 L M = true := by
    refine alN_mono _ _ _ (Nat.succ_le_of_lt hat) ?_
    show (alStep (alN (opsP p u) (s.at_ u)) (ev0 (opsP p u) (s.at_ u))).2 L M = true
    unfold alStep
    rw [if_pos ⟨hM.k, hon⟩]
    have ho : (ev0 (opsP p u) (s.at_ u)).t.toNat = M := hM.obj
    show ((alN (opsP p u) (s.at_ u)).2 L M || (decide (M = _) && (alN (opsP p u) (s.at_ u)).1 L)) = true
    rw [ho, (alN_held _ _ L).2 ((heldZ_op p u _ _).1 hh)]
    simp
  unfold edgeP
  rw [hasB_iff]
  refine mem_allPr hul (mem_pwAll.2 ⟨L, M, h.lt, hM.lt, rfl, ?_⟩)
  rw [opsP_len]; exact hW
/-- The law. -/
theorem goes_on {p : List (List Ev)} (hp : OkP p) (hg : ∀ t, t < p.length → GoodZ (opsP p t)) (hr : ringP (edgeP (allPr p)) = []) (picks : List Int) : stuckB p (runP p picks).1 = false := by
  have hI := runP_IP hp picks
  have hL := runP_lockC hp picks
  generalize (runP p picks).1 = s at *
  cases hst : stuckB p s
  · rfl
  · exfalso
    have hs : ∀ t : Nat, canB p s (t : Nat) = false := fun t => stuck_stop hst t
    have hd : doneB p s = false := by
      unfold stuckB at hst
      cases hd : doneB p s
      · rfl
      · rw [hd] at hst; simp at hst
    obtain ⟨t, ht, hn⟩ : ∃ t, t < p.length ∧ nextB p s (t : Nat) = true := by
      apply Classical.byContradiction
      intro hno
      have : doneB p s = true := List.all_eq_true.2 fun t ht => by
        cases hc : nextB p s (t : Nat)
        · rfl
        · exact absurd ⟨t, List.mem_range.1 ht, hc⟩ hno
      rw [hd] at this; cases this
    obtain ⟨L, hW⟩ := wait_of hp hI hg hn (hs t)
    have key : ∀ n : Nat, ∀ t L, WaitL p s t L → (125 : Int) < rankR (edgeP (allPr p)) 5 L + n → False := by
      intro n
      induction n with
      | zero =>
        intro t L h hlt
        have := (uptoR_rank (edgeP (allPr p)) 5 L h.lt).2
        omega
      | succ n ih =>
        intro t L h hlt
        obtain ⟨u, M, hM, hE⟩ := wait_next hp hI hL hg hs h
        have := rank_up hr h.lt hM.lt hE
        exact ih u M hM (by omega)
    have h0 := (uptoR_rank (edgeP (allPr p)) 5 L hW.lt).1
    exact key 126 t L hW (by omega)
end Go.Proofs.Ytoohconipcleiaa
