/- Joined texts. -/
import Derived.Test.YtfjbnhacfficnaaGreatDoorGdB
import Derived.Test.YtfjbnhacfficnaaGreatDoorZB
import Derived.RangeFuncNested
import Derived.RangeFuncBound
import Derived.RangeFuncCalls
import Derived.RangeFuncLeaves
import Derived.Shelf.Abstract
import Derived.Shelf.RegionOpen
import Derived.WalkKit
import Derived.OwnWalkIn
import Derived.TacticsInMore
import Derived.LoopNIn
import Derived.LoopIn

/- The iterator over a trace's accesses: what it does at whatever loop. -/
namespace Go.Proofs.YtfjbnhacfficnaaGreatDoor
open Go.RowKit Go.Shelf

theorem hdC_zero : hdC (fun _ => 0) = clkC (fun _ => 0) := rfl
set_option maxRecDepth 100000 in
set_option maxHeartbeats 8000000 in
theorem iter_any (n l : Nat) (z : List Ev) (a : Option Addr) (c Bl : Nat) (wz W0 : World) (J : Nat → World → Prop)
    (hl : W0.cell? ⟨Bl, 0, none⟩ = some (.slice a z.length c)) (hz : EvS wz a z) (hbz : Below wz.heap.size wz W0) (hp : (played z).2.2 = 0)
    (hJ : ∀ i W W' row, J i W → W.grownBy W' row → (∀ r, row = some r → r = W0.heap.size) → J i W')
    (hN : ∀ i W, i < z.length → isAcc (evAt z i) = false → J i W → J (i + 1) W)
    (hY : ∀ i W1, i < z.length → isAcc (evAt z i) = true → J i W1 → W0.heap.size < W1.heap.size → YieldAt Fence.wide (n - 1) Tryz.prog l #[.int .i64 (i : Int), .int .i64 (lkAt z i : Int)] W1 fun e W' =>
      e = .returned (.bool true) ∧ J (i + 1) W' ∧ Below wz.heap.size W1 W' ∧ W'.heap[W0.heap.size]? = W1.heap[W0.heap.size]?)
    (h0 : J 0 W0) :
    CallsIn Fence.wide n Tryz.prog 118 #[.func (.yield l) #[] #[], .pointer (some ⟨Bl, 0, none⟩)] W0 fun e W' => (∃ v, e = .returned v) ∧ J z.length W' := by
  have hbig := hz.big
  refine callsIn_of_wp Tryz.func118 rfl trivial ?_ rfl
  simp only [Tryz.ntmps118, List.size_toArray, List.length_cons, List.length_nil, Nat.reduceAdd, Nat.reduceSub, Array.replicate_succ, Array.replicate_zero, List.push_toArray, List.append_toArray, List.nil_append, List.cons_append]
  have hl1 : (W0.alloc (.cells (clkC fun _ => 0) hdT)).cell? ⟨Bl, 0, none⟩ = some (.slice a z.length c) := (((Below.refl W0.heap.size W0).alloc (Nat.le_refl _) _).cell (World.block_lt_of_cell? _ _ hl)).trans hl
  have hH1 := Has.new W0 (clkC fun _ => 0) hdT
  have hJ1 := hJ 0 W0 (W0.alloc (.cells (clkC fun _ => 0) hdT)) none h0 (World.grownBy_alloc W0 _ none) (fun r e => by cases e)
  have hb1 : Below wz.heap.size wz (W0.alloc (.cells (clkC fun _ => 0) hdT)) := hbz.alloc hbz.size _
  clear hl h0
  gi_wp2
  gi_loopw [8] (fun p wr => ∃ k : Nat, k ≤ z.length ∧ p = .int .i64 k ∧ Has wr W0.heap.size (hdC (gdL z k).H) hdT ∧ Below wz.heap.size wz wr ∧ J k wr) (fun p _ => z.length - (intOf p).toNat)
  case atStart => exact ⟨0, Nat.zero_le _, rfl, hH1, hb1, hJ1⟩
  case round =>
    clear hH1 hb1 hJ1 hl1
    obtain ⟨k, hk, rfl, hH, hb, hJk⟩ := hrel
    by_cases hlt : k < z.length
    · obtain ⟨g, q, rfl, e0, e1, e2⟩ := (hz.below hb).at hlt
      have hev := evAt_lt hlt
      have hE := isEv_iff.2 (ev_at hp hlt)
      have hHl := (gdL_ok hp hk).H
      have hst : (gdL z (k + 1)).H = hStep (gdL z k).H (evAt z k) := by
        show (gStep (gdL z k) k (evAt z k)).H = _
        unfold gStep; split <;> rfl
      have hlk : lkAt z k = hStep (gdL z k).H (evAt z k) (evAt z k).t.toNat := rfl
      rw [← hev] at e0 e1 e2
      have HST := Lib.hid hst
      have HLK := Lib.hid hlk
      have hN1 := hN k
      have hY1 := fun W => hY k W hlt
      have k0 : (0 : Int) ≤ k := by omega
      have k1 : (k : Int) < z.length := by omega
      have hHlt := hH.lt
      clear hst hlk hev hN hY
      generalize evAt z k = x at *
      have HE := Lib.hid hE
      obtain ⟨t0, t6, _⟩ := isEv_iff.1 hE
      have hNb := Has.new wr (evC x) 55
      have hH2 := hH.alloc (.cells (evC x) 55)
      have hb2 := hb.alloc hb.size (.cells (evC x) 55)
      have hJ2 := hJ k wr _ none hJk (World.grownBy_alloc wr (.cells (evC x) 55) none) (fun r e => by cases e)
      obtain ⟨x0, x1, x2⟩ : (wr.alloc (.cells (evC x) 55)).cell? ⟨wr.heap.size, 0, none⟩ = some (.int .i64 x.k) ∧ (wr.alloc (.cells (evC x) 55)).cell? ⟨wr.heap.size, 1, none⟩ = some (.int .i64 x.t) ∧ (wr.alloc (.cells (evC x) 55)).cell? ⟨wr.heap.size, 2, none⟩ = some (.int .i64 x.o) := ⟨hNb.cell rfl, hNb.cell rfl, hNb.cell rfl⟩
      clear hE
      gi_wp2_with fail
      refine ⟨trivial, (fun h => (by cases h)), (callsIn_wide.2 (takesH_any (gdL z k).H x W0.heap.size _ hH2 hHl HE.out)).mono ?_⟩
      rintro r w2 ⟨rfl, hH3, hg3⟩
      have hb3 := hb2.grown hg3 (Nat.le_trans hb.size (by simp)) (fun j e => by cases e; exact hbz.size)
      have hJ3 := hJ k _ w2 _ hJ2 hg3 (fun r e => by cases e; rfl)
      have hNb3 := hNb.grown hg3 (by intro e; injection e with e; omega)
      have hlt3 := hH3.lt
      clear hNb hH2 hb2 hJ2 hg3 x0 x1 x2 hH hb hJk e0 e1 e2
      obtain ⟨x0, x1, x2⟩ : w2.cell? ⟨wr.heap.size, 0, none⟩ = some (.int .i64 x.k) ∧ w2.cell? ⟨wr.heap.size, 1, none⟩ = some (.int .i64 x.t) ∧ w2.cell? ⟨wr.heap.size, 2, none⟩ = some (.int .i64 x.o) := ⟨hNb3.cell rfl, hNb3.cell rfl, hNb3.cell rfl⟩
      gi_wp2_with fail
      refine ⟨trivial, (fun h => (by cases h)), (callsIn_wide.2 (isAcc_any x _)).mono ?_⟩
      rintro r w3 ⟨rfl, hk3⟩
      have hH4 := hH3.below hk3 hH3.lt
      have hb4 := hb3.trans (hk3.mono hb3.size)
      have hJ4 := hJ k _ w3 _ hJ3 (grown_of (b := W0.heap.size) hk3) (fun r e => by cases e; rfl)
      have hNb4 := hNb3.below hk3 hNb3.lt
      have hlt4 := hH4.lt
      clear hH3 hb3 hJ3 hNb3 x0 x1 x2 hk3
      cases hacc : isAcc x
      · have hJ5 := hN1 w3 hlt hacc hJ4
        have hH5 : Has w3 W0.heap.size (hdC (gdL z (k + 1)).H) hdT := by rw [HST.out]; exact hH4
        clear hN1 hY1 hJ4 hH4 hacc
        gi_wp2
        refine ⟨fun _ h => (by cases h), ?_⟩
        gi_wp2
        go_roundw
        case rel => exact ⟨k + 1, by omega, by go_num, hH5, hb4, hJ5⟩
        case measure => (simp [intOf]; try omega)
      · obtain ⟨fn, tmps, assign, body, hy, hR⟩ := hY1 w3 hacc hJ4 hlt4
        have ht6 : x.t.toNat < 6 := by omega
        obtain ⟨T, hT⟩ := Int.eq_ofNat_of_zero_le t0
        have hTT : x.t.toNat = T := by omega
        rw [hTT] at ht6
        have cHt := hH4.cell (clkC_get (fun i => ((hStep (gdL z k).H x i : Nat) : Int)) T ht6)
        have c1 : w3.cell? ⟨wr.heap.size, 1, none⟩ = some (.int .i64 (T : Int)) := by rw [← hT]; exact hNb4.cell rfl
        rw [HLK.out, hTT] at hy
        have T6 : (T : Int) < 6 := by omega
        clear t0 t6 hT hTT hHl hNb4
        gi_wp2
        refine ⟨(fun h => (by cases h)), hR.mono ?_⟩
        rintro e W5 ⟨rfl, hJ5, hk5, hB5⟩
        have hH5 : Has W5 W0.heap.size (hdC (gdL z (k + 1)).H) hdT := ⟨by rw [hB5, HST.out]; exact hH4.out⟩
        have hb5 := hb4.trans hk5
        clear hJ4 hH4 hb4 hk5 hB5 hR hy cHt c1
        gi_wp2
        go_roundw
        case rel => exact ⟨k + 1, by omega, by go_num, hH5, hb5, hJ5⟩
        case measure => (simp [intOf]; try omega)
    · obtain rfl : k = z.length := by omega
      gi_wp2
      go_end0
      exact ⟨⟨_, rfl⟩, hJk⟩
end Go.Proofs.YtfjbnhacfficnaaGreatDoor

/- A range over a trace's accesses: what the caller owes: an invariant, and one walk of the body. -/
namespace Go.Proofs.YtfjbnhacfficnaaGreatDoor
open Go.RowKit Go.Shelf

/-- How the body of a round may be left: off its end. -/
def accPost (n₀ H : Nat) (I : Nat → World → Prop) (i : Nat) (W : World) : Exit → Act → World → Prop
  | .normal, _, W' => (∀ r, H ≤ r → r ≤ H + 2 → W'.heap[r]? = W.heap[r]?) ∧ Below n₀ W W' ∧ I (i + 1) W'
  | _, _, _ => False
theorem wp_range_acc {n : Nat} {g : Operand} {ps : Array Tmp} {assign body : Code} {Q : Exit → Act → World → Prop} {a : Act} {w wz : World} {z : List Ev} {sa : Option Addr} {c Bl : Nat}
    (hg : a.eval g = .func (.func 118) #[] #[.pointer (some ⟨Bl, 0, none⟩)]) (hps : ps.size = 2)
    (hl : w.cell? ⟨Bl, 0, none⟩ = some (.slice sa z.length c)) (hz : EvS wz sa z) (hbz : Below wz.heap.size wz w) (hp : (played z).2.2 = 0)
    (I : Nat → World → Prop) (hI : ∀ i W W' row, I i W → W.grownBy W' row → (∀ r, row = some r → w.heap.size ≤ r ∧ r ≤ w.heap.size + 2) → I i W')
    (hN : ∀ i W, i < z.length → isAcc (evAt z i) = false → I i W → I (i + 1) W) (h0 : I 0 w) (a₁ : Nat → Act)
    (hassign : ∀ (l i : Nat) (W : World) (K : Act → World → Prop), K (a₁ i) W →
      assign.wpIn (Fence.wide.inRound l) (n - 1 - 1) Tryz.prog (Exit.then K (fun _ _ _ => False)) { tmps := (ps.zip #[.int .i64 (i : Int), .int .i64 (lkAt z i : Int)]).foldl (fun t (p, v) => t.setIfInBounds p v) a.tmps, defers := [] } W)
    (hbody : ∀ (l i : Nat) (W : World), i < z.length → isAcc (evAt z i) = true → I i W → w.heap.size + 2 < W.heap.size → body.wpIn (Fence.wide.inRound l) (n - 1 - 1) Tryz.prog (accPost wz.heap.size w.heap.size I i W) (a₁ i) W)
    (hdone : ∀ (W : World), I z.length W → W.heap[w.heap.size]? = some (.deferred (some [])) → Q .normal { a with defers := { target := .collected w.heap.size, args := #[] } :: a.defers } W) :
    (Code.rangeFunc g ps assign body).wpIn Fence.wide n Tryz.prog Q a w := by
  refine wpIn_rangeFunc ?_
  intro fn hfn
  obtain ⟨rec, hrec⟩ : ∃ rec : LoopState → Option Code → Loop, rec = fun st pe => { state := st, pending := pe, fn, tmps := a.tmps, params := ps, assign, body, defers := w.heap.size } := ⟨_, rfl⟩
  obtain ⟨W1, hW1⟩ : ∃ W1, (w.alloc (.deferred (some []))).alloc (.loop (rec .ready none)) = W1 := ⟨_, rfl⟩
  have hL1 : W1.heap[w.heap.size + 1]? = some (.loop (rec .ready none)) := by
    rw [← hW1]; have := World.alloc_heap_new (w.alloc (.deferred (some []))) (.loop (rec .ready none)); rwa [World.size_alloc] at this
  have hK1 : W1.heap[w.heap.size]? = some (.deferred (some [])) := by
    rw [← hW1]; exact (Below.heap_alloc _ _ _ (by simp)).trans (World.alloc_heap_new w _)
  have hI1 : I 0 W1 := by
    rw [← hW1]
    exact hI 0 _ _ none (hI 0 _ _ none h0 (World.grownBy_alloc w _ none) (fun r e => by cases e)) (World.grownBy_alloc _ _ none) (fun r e => by cases e)
  have hb1 : Below wz.heap.size wz W1 := by
    rw [← hW1]; exact hbz.trans ((((Below.refl _ w).alloc (Nat.le_refl _) _).alloc (by simp) _).mono hbz.size)
  have hs1 : W1.heap.size = w.heap.size + 2 := by rw [← hW1]; simp
  have hl1 : W1.cell? ⟨Bl, 0, none⟩ = some (.slice sa z.length c) := by
    rw [← hW1]; exact ((((Below.refl _ w).alloc (Nat.le_refl _) _).alloc (by simp) _).cell (World.block_lt_of_cell? _ _ hl)).trans hl
  refine ⟨w.heap.size + 1, [{ target := .collected w.heap.size, args := #[] }], W1, { target := .fn (.func 118) #[.pointer (some ⟨Bl, 0, none⟩)], args := #[.func (.yield (w.heap.size + 1)) #[] #[]] }, W1, 118,
    #[.func (.yield (w.heap.size + 1)) #[] #[]] ++ #[.pointer (some ⟨Bl, 0, none⟩)], W1, ?_, ?_, ?_, ?_, (fun h => by cases h), ?_⟩
  · rw [← hW1, hrec]; exact run_enterLoop_outer _ _ _ _ _
  · simp only [resolve, hg]
    simp [go_sem]
  · intro f' hf'; trivial
  · simp [invoke, go_sem]
  · refine (iter_any (n - 1) (w.heap.size + 1) z sa c Bl wz W1
      (fun i W => I i W ∧ W.heap[w.heap.size + 1]? = some (.loop (rec .ready none)) ∧ W.heap[w.heap.size]? = some (.deferred (some [])))
      hl1 hz hb1 hp ?_ ?_ ?_ ⟨hI1, hL1, hK1⟩).mono ?_
    · rintro i W W' row ⟨hi, hl, hk⟩ hg' hr
      have h1 : some (w.heap.size + 1) ≠ row := fun e => by have := hr _ e.symm; omega
      have h2 : some w.heap.size ≠ row := fun e => by have := hr _ e.symm; omega
      exact ⟨hI i W W' row hi hg' (fun r e => by have := hr r e; omega), (hg'.block _ (Array.getElem?_eq_some_iff.1 hl).1 h1).trans hl, (hg'.block _ (Array.getElem?_eq_some_iff.1 hk).1 h2).trans hk⟩
    · rintro i W hi hacc ⟨h1, h2⟩
      exact ⟨hN i W hi hacc h1, h2⟩
    · rintro i W hiz hacc ⟨hi, hl, hk⟩ hlt
      rw [hs1] at hlt
      have hy := run_yield (P := Tryz.prog) (args := #[.int .i64 (i : Int), .int .i64 (lkAt z i : Int)]) hl (by rw [hrec]; exact hps.symm)
      rw [hrec] at hy
      refine ⟨fn, _, assign, body, hy, roundIn_of_wpIn hfn (hassign _ i W _ ⟨_, run_beginRound hl (by rw [hrec]), ?_⟩)⟩
      have hl2 : (W.putObj (w.heap.size + 1) (.loop { rec .ready none with state := .busy })).heap[w.heap.size + 1]? = some (.loop { rec .ready none with state := .busy }) := World.putObj_heap_same (by omega)
      have hk2 : (W.putObj (w.heap.size + 1) (.loop { rec .ready none with state := .busy })).heap[w.heap.size]? = some (.deferred (some [])) := (World.putObj_heap_other (by omega)).trans hk
      have hg2 := grownBy_putObj' W (w.heap.size + 1) (.loop { rec .ready none with state := .busy })
      have hi2 := hI i _ _ _ hi hg2 (fun r e => by cases e; omega)
      have hbw2 : Below wz.heap.size W (W.putObj (w.heap.size + 1) (.loop { rec .ready none with state := .busy })) := (Below.refl _ W).grown hg2 (by have := hbz.size; omega) (fun k e => by cases e; have := hbz.size; omega)
      refine wpIn_mono (hbody _ i _ hiz hacc hi2 (by simpa using hlt)) ?_
      rintro e a3 W3 hp3
      cases e with
      | normal =>
        obtain ⟨hs3, hb3, hi3⟩ := hp3
        have hl3 : W3.heap[w.heap.size + 1]? = some (.loop { rec .ready none with state := .busy }) := (hs3 _ (by omega) (by omega)).trans hl2
        have hk3 : W3.heap[w.heap.size]? = some (.deferred (some [])) := (hs3 _ (by omega) (by omega)).trans hk2
        have hr := run_endRound (P := Tryz.prog) none hl3
        have hg4 := grownBy_putObj' W3 (w.heap.size + 1) (.loop (rec .ready none))
        rw [hrec] at hr hg4 ⊢
        refine ⟨_, _, hr, rfl, ⟨hI (i + 1) _ _ _ hi3 hg4 (fun r e => by cases e; omega), World.putObj_heap_same (by rw [hrec] at hl3; exact (Array.getElem?_eq_some_iff.1 hl3).1), (World.putObj_heap_other (by omega)).trans hk3⟩, ?_, ?_⟩
        · refine (hbw2.trans hb3).trans ((Below.refl _ W3).grown hg4 ?_ (fun k e => by cases e; have := hbz.size; omega))
          have q1 := hbz.size
          have q2 := hb3.size
          rw [World.putObj_size] at q2
          omega
        · rw [hs1]
          refine (World.putObj_heap_other (by omega)).trans ((hs3 _ (by omega) (by omega)).trans (World.putObj_heap_other (by omega)))
      | ret => exact hp3.elim
      | exit id => exact hp3.elim
      | goto t => exact hp3.elim
      | panic ch => exact hp3.elim
      | outgrown => exact hp3.elim
    · rintro e W2 ⟨⟨v, rfl⟩, hi, hl, hk⟩
      refine ⟨none, _, by have := run_endLoop (P := Tryz.prog) hl (by rw [hrec]; simp); rw [hrec] at this; exact this, hdone _ (hI _ _ _ _ hi (grownBy_putObj' W2 _ _) (fun r e => by cases e; omega)) ((World.putObj_heap_other (by omega)).trans hk)⟩
end Go.Proofs.YtfjbnhacfficnaaGreatDoor
