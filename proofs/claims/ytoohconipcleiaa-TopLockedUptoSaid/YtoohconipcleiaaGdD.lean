/- A range over a trace's accesses: what the caller owes: an invariant, and one walk of the body. -/
import Derived.Test.YtoohconipcleiaaGdC
namespace Go.Proofs.Ytoohconipcleiaa
open Go.RowKit Go.Shelf

/-- How the body of a round may be left: off its end. -/
def accPost (n₀ H : Nat) (I : Nat → World → Prop) (i : Nat) (W : World) : Exit → Act → World → Prop
  | .normal, _, W' => (∀ r, H ≤ r → r ≤ H + 2 → W'.heap[r]? = W.heap[r]?) ∧ Below n₀ W W' ∧ I (i + 1) W'
  | _, _, _ => False
theorem wp_range_acc {n : Nat} {g : Operand} {ps : Array Tmp} {assign body : Code} {Q : Exit → Act → World → Prop} {a : Act} {w wz : World} {z : List Ev} {sa : Option Addr} {c Bl : Nat}
    (hg : a.eval g = .func (.func 116) #[] #[.pointer (some ⟨Bl, 0, none⟩)]) (hps : ps.size = 2)
    (hl : w.cell? ⟨Bl, 0, none⟩ = some (.slice sa z.length c)) (hz : EvS wz sa z) (hbz : Below wz.heap.size wz w) (hp : (played z).2.2 = 0)
    (I : Nat → World → Prop) (hI : ∀ i W W' row, I i W → W.grownBy W' row → (∀ r, row = some r → w.heap.size ≤ r ∧ r ≤ w.heap.size + 2) → I i W')
    (hN : ∀ i W, i < z.length → isAcc (evAt z i) = false → I i W → I (i + 1) W) (h0 : I 0 w) (a₁ : Nat → Act)
    (hassign : ∀ (l i : Nat) (W : World) (K : Act → World → Prop), K (a₁ i) W →
      assign.wpIn (Fence.wide.inRound l) (n - 1 - 1) Try.prog (Exit.then K (fun _ _ _ => False)) { tmps := (ps.zip #[.int .i64 (i : Int), .int .i64 (lkAt z i : Int)]).foldl (fun t (p, v) => t.setIfInBounds p v) a.tmps, defers := [] } W)
    (hbody : ∀ (l i : Nat) (W : World), i < z.length → isAcc (evAt z i) = true → I i W → w.heap.size + 2 < W.heap.size → body.wpIn (Fence.wide.inRound l) (n - 1 - 1) Try.prog (accPost wz.heap.size w.heap.size I i W) (a₁ i) W)
    (hdone : ∀ (W : World), I z.length W → W.heap[w.heap.size]? = some (.deferred (some [])) → Q .normal { a with defers := { target := .collected w.heap.size, args := #[] } :: a.defers } W) :
    (Code.rangeFunc g ps assign body).wpIn Fence.wide n Try.prog Q a w := by
  refine wpIn_rangeFunc ?_
  intro fn hfn
  obtain ⟨rec, hrec⟩ : ∃ rec : LoopState → Option Code → Loop, rec = fun st pe => { state := st, pending := pe, fn, tmps := a.tmps, params := ps, assign, body, defers := w.heap.size } := ⟨_, rfl⟩
  obtain ⟨W1, hW1⟩ : ∃ W1, (w.alloc (.deferred (some []))).alloc (.loop (rec .ready none)) = W1 := ⟨_, rfl⟩
  have hL1 : W1.heap[w.heap.size + 1]? = some (.loop (rec .ready none)) := by
    rw [← hW1]; have := World.alloc_heap_new (w.alloc (.deferred (some []))) (.loop (rec .ready none)); rwa [World.size_alloc] at this
  have hK1 : W1.heap[w.heap.size]? = some (.deferred (some [])) := by
    rw [← hW1]; exact (Below.heap_alloc _ _ _ (by simp)).trans (World.alloc_heap_new w _)
  have hI1 : I 0 W1 := by
    rw [← hW1]
    exact hI 0 _ _ none (hI 0 _ _ none h0 (World.grownBy_alloc w _ none) (fun r e => by cases e)) (World.grownBy_alloc _ _ none) (fun r e => by cases e)
  have hb1 : Below wz.heap.size wz W1 := by
    rw [← hW1]; exact hbz.trans ((((Below.refl _ w).alloc (Nat.le_refl _) _).alloc (by simp) _).mono hbz.size)
  have hs1 : W1.heap.size = w.heap.size + 2 := by rw [← hW1]; simp
  have hl1 : W1.cell? ⟨Bl, 0, none⟩ = some (.slice sa z.length c) := by
    rw [← hW1]; exact ((((Below.refl _ w).alloc (Nat.le_refl _) _).alloc (by simp) _).cell (World.block_lt_of_cell? _ _ hl)).trans hl
  refine ⟨w.heap.size + 1, [{ target := .collected w.heap.size, args := #[] }], W1, { target := .fn (.func 116) #[.pointer (some ⟨Bl, 0, none⟩)], args := #[.func (.yield (w.heap.size + 1)) #[] #[]] }, W1, 116,
    #[.func (.yield (w.heap.size + 1)) #[] #[]] ++ #[.pointer (some ⟨Bl, 0, none⟩)], W1, ?_, ?_, ?_, ?_, (fun h => by cases h), ?_⟩
  · rw [← hW1, hrec]; exact run_enterLoop_outer _ _ _ _ _
  · simp only [resolve, hg]
    simp [go_sem]
  · intro f' hf'; trivial
  · simp [invoke, go_sem]
  · refine (iter_any (n - 1) (w.heap.size + 1) z sa c Bl wz W1
      (fun i W => I i W ∧ W.heap[w.heap.size + 1]? = some (.loop (rec .ready none)) ∧ W.heap[w.heap.size]? = some (.deferred (some [])))
      hl1 hz hb1 hp ?_ ?_ ?_ ⟨hI1, hL1, hK1⟩).mono ?_
    · rintro i W W' row ⟨hi, hl, hk⟩ hg' hr
      have h1 : some (w.heap.size + 1) ≠ row := fun e => by have := hr _ e.symm; omega
      have h2 : some w.heap.size ≠ row := fun e => by have := hr _ e.symm; omega
      exact ⟨hI i W W' row hi hg' (fun r e => by have := hr r e; omega), (hg'.block _ (Array.getElem?_eq_some_iff.1 hl).1 h1).trans hl, (hg'.block _ (Array.getElem?_eq_some_iff.1 hk).1 h2).trans hk⟩
    · rintro i W hi hacc ⟨h1, h2⟩
      exact ⟨hN i W hi hacc h1, h2⟩
    · rintro i W hiz hacc ⟨hi, hl, hk⟩ hlt
      rw [hs1] at hlt
      have hy := run_yield (P := Try.prog) (args := #[.int .i64 (i : Int), .int .i64 (lkAt z i : Int)]) hl (by rw [hrec]; exact hps.symm)
      rw [hrec] at hy
      refine ⟨fn, _, assign, body, hy, roundIn_of_wpIn hfn (hassign _ i W _ ⟨_, run_beginRound hl (by rw [hrec]), ?_⟩)⟩
      have hl2 : (W.putObj (w.heap.size + 1) (.loop { rec .ready none with state := .busy })).heap[w.heap.size + 1]? = some (.loop { rec .ready none with state := .busy }) := World.putObj_heap_same (by omega)
      have hk2 : (W.putObj (w.heap.size + 1) (.loop { rec .ready none with state := .busy })).heap[w.heap.size]? = some (.deferred (some [])) := (World.putObj_heap_other (by omega)).trans hk
      have hg2 := grownBy_putObj' W (w.heap.size + 1) (.loop { rec .ready none with state := .busy })
      have hi2 := hI i _ _ _ hi hg2 (fun r e => by cases e; omega)
      have hbw2 : Below wz.heap.size W (W.putObj (w.heap.size + 1) (.loop { rec .ready none with state := .busy })) := (Below.refl _ W).grown hg2 (by have := hbz.size; omega) (fun k e => by cases e; have := hbz.size; omega)
      refine wpIn_mono (hbody _ i _ hiz hacc hi2 (by simpa using hlt)) ?_
      rintro e a3 W3 hp3
      cases e with
      | normal =>
        obtain ⟨hs3, hb3, hi3⟩ := hp3
        have hl3 : W3.heap[w.heap.size + 1]? = some (.loop { rec .ready none with state := .busy }) := (hs3 _ (by omega) (by omega)).trans hl2
        have hk3 : W3.heap[w.heap.size]? = some (.deferred (some [])) := (hs3 _ (by omega) (by omega)).trans hk2
        have hr := run_endRound (P := Try.prog) none hl3
        have hg4 := grownBy_putObj' W3 (w.heap.size + 1) (.loop (rec .ready none))
        rw [hrec] at hr hg4 ⊢
        refine ⟨_, _, hr, rfl, ⟨hI (i + 1) _ _ _ hi3 hg4 (fun r e => by cases e; omega), World.putObj_heap_same (by rw [hrec] at hl3; exact (Array.getElem?_eq_some_iff.1 hl3).1), (World.putObj_heap_other (by omega)).trans hk3⟩, ?_, ?_⟩
        · refine (hbw2.trans hb3).trans ((Below.refl _ W3).grown hg4 ?_ (fun k e => by cases e; have := hbz.size; omega))
          have q1 := hbz.size
          have q2 := hb3.size
          rw [World.putObj_size] at q2
          omega
        · rw [hs1]
          refine (World.putObj_heap_other (by omega)).trans ((hs3 _ (by omega) (by omega)).trans (World.putObj_heap_other (by omega)))
      | ret => exact hp3.elim
      | exit id => exact hp3.elim
      | goto t => exact hp3.elim
      | panic ch => exact hp3.elim
      | outgrown => exact hp3.elim
    · rintro e W2 ⟨⟨v, rfl⟩, hi, hl, hk⟩
      refine ⟨none, _, by have := run_endLoop (P := Try.prog) hl (by rw [hrec]; simp); rw [hrec] at this; exact this, hdone _ (hI _ _ _ _ hi (grownBy_putObj' W2 _ _) (fun r e => by cases e; omega)) ((World.putObj_heap_other (by omega)).trans hk)⟩
end Go.Proofs.Ytoohconipcleiaa
