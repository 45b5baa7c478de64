/- The iterator over a trace's accesses: what it does at whatever loop. -/
import Derived.Test.YtoohconipcleiaaGdB
import Derived.Test.YtoohconipcleiaaMD
import Derived.RangeFuncNested
import Derived.RangeFuncBound
import Derived.RangeFuncCalls
import Derived.RangeFuncLeaves
import Derived.Shelf.Abstract
import Derived.Shelf.RegionOpen
import Derived.WalkKit
import Derived.OwnWalkIn
import Derived.TacticsInMore
import Derived.LoopNIn
import Derived.LoopIn
namespace Go.Proofs.Ytoohconipcleiaa
open Go.RowKit Go.Shelf

theorem hdC_zero : hdC (fun _ => 0) = clkC (fun _ => 0) := rfl
set_option maxRecDepth 100000 in
set_option maxHeartbeats 8000000 in
theorem iter_any (n l : Nat) (z : List Ev) (a : Option Addr) (c Bl : Nat) (wz W0 : World) (J : Nat → World → Prop)
    (hl : W0.cell? ⟨Bl, 0, none⟩ = some (.slice a z.length c)) (hz : EvS wz a z) (hbz : Below wz.heap.size wz W0) (hp : (played z).2.2 = 0)
    (hJ : ∀ i W W' row, J i W → W.grownBy W' row → (∀ r, row = some r → r = W0.heap.size) → J i W')
    (hN : ∀ i W, i < z.length → isAcc (evAt z i) = false → J i W → J (i + 1) W)
    (hY : ∀ i W1, i < z.length → isAcc (evAt z i) = true → J i W1 → W0.heap.size < W1.heap.size → YieldAt Fence.wide (n - 1) Try.prog l #[.int .i64 (i : Int), .int .i64 (lkAt z i : Int)] W1 fun e W' =>
      e = .returned (.bool true) ∧ J (i + 1) W' ∧ Below wz.heap.size W1 W' ∧ W'.heap[W0.heap.size]? = W1.heap[W0.heap.size]?)
    (h0 : J 0 W0) :
    CallsIn Fence.wide n Try.prog 116 #[.func (.yield l) #[] #[], .pointer (some ⟨Bl, 0, none⟩)] W0 fun e W' => (∃ v, e = .returned v) ∧ J z.length W' := by
  have hbig := hz.big
  refine callsIn_of_wp Try.func116 rfl trivial ?_ rfl
  simp only [Try.ntmps116, List.size_toArray, List.length_cons, List.length_nil, Nat.reduceAdd, Nat.reduceSub, Array.replicate_succ, Array.replicate_zero, List.push_toArray, List.append_toArray, List.nil_append, List.cons_append]
  have hl1 : (W0.alloc (.cells (clkC fun _ => 0) hdT)).cell? ⟨Bl, 0, none⟩ = some (.slice a z.length c) := (((Below.refl W0.heap.size W0).alloc (Nat.le_refl _) _).cell (World.block_lt_of_cell? _ _ hl)).trans hl
  have hH1 := Has.new W0 (clkC fun _ => 0) hdT
  have hJ1 := hJ 0 W0 (W0.alloc (.cells (clkC fun _ => 0) hdT)) none h0 (World.grownBy_alloc W0 _ none) (fun r e => by cases e)
  have hb1 : Below wz.heap.size wz (W0.alloc (.cells (clkC fun _ => 0) hdT)) := hbz.alloc hbz.size _
  clear hl h0
  gi_wp2
  gi_loopw [8] (fun p wr => ∃ k : Nat, k ≤ z.length ∧ p = .int .i64 k ∧ Has wr W0.heap.size (hdC (gdL z k).H) hdT ∧ Below wz.heap.size wz wr ∧ J k wr) (fun p _ => z.length - (intOf p).toNat)
  case atStart => exact ⟨0, Nat.zero_le _, rfl, hH1, hb1, hJ1⟩
  case round =>
    clear hH1 hb1 hJ1 hl1
    obtain ⟨k, hk, rfl, hH, hb, hJk⟩ := hrel
    by_cases hlt : k < z.length
    · obtain ⟨g, q, rfl, e0, e1, e2⟩ := (hz.below hb).at hlt
      have hev := evAt_lt hlt
      have hE := isEv_iff.2 (ev_at hp hlt)
      have hHl := (gdL_ok hp hk).H
      have hst : (gdL z (k + 1)).H = hStep (gdL z k).H (evAt z k) := by
        show (gStep (gdL z k) k (evAt z k)).H = _
        unfold gStep; split <;> rfl
      have hlk : lkAt z k = hStep (gdL z k).H (evAt z k) (evAt z k).t.toNat := rfl
      rw [← hev] at e0 e1 e2
      have HST := Lib.hid hst
      have HLK := Lib.hid hlk
      have hN1 := hN k
      have hY1 := fun W => hY k W hlt
      have k0 : (0 : Int) ≤ k := by omega
      have k1 : (k : Int) < z.length := by omega
      have hHlt := hH.lt
      clear hst hlk hev hN hY
      generalize evAt z k = x at *
      have HE := Lib.hid hE
      obtain ⟨t0, t6, _⟩ := isEv_iff.1 hE
      have hNb := Has.new wr (evC x) 36
      have hH2 := hH.alloc (.cells (evC x) 36)
      have hb2 := hb.alloc hb.size (.cells (evC x) 36)
      have hJ2 := hJ k wr _ none hJk (World.grownBy_alloc wr (.cells (evC x) 36) none) (fun r e => by cases e)
      obtain ⟨x0, x1, x2⟩ : (wr.alloc (.cells (evC x) 36)).cell? ⟨wr.heap.size, 0, none⟩ = some (.int .i64 x.k) ∧ (wr.alloc (.cells (evC x) 36)).cell? ⟨wr.heap.size, 1, none⟩ = some (.int .i64 x.t) ∧ (wr.alloc (.cells (evC x) 36)).cell? ⟨wr.heap.size, 2, none⟩ = some (.int .i64 x.o) := ⟨hNb.cell rfl, hNb.cell rfl, hNb.cell rfl⟩
      clear hE
      gi_wp2_with fail
      refine ⟨trivial, (fun h => (by cases h)), (callsIn_wide.2 (takesH_any (gdL z k).H x W0.heap.size _ hH2 hHl HE.out)).mono ?_⟩
      rintro r w2 ⟨rfl, hH3, hg3⟩
      have hb3 := hb2.grown hg3 (Nat.le_trans hb.size (by simp)) (fun j e => by cases e; exact hbz.size)
      have hJ3 := hJ k _ w2 _ hJ2 hg3 (fun r e => by cases e; rfl)
      have hNb3 := hNb.grown hg3 (by intro e; injection e with e; omega)
      have hlt3 := hH3.lt
      clear hNb hH2 hb2 hJ2 hg3 x0 x1 x2 hH hb hJk e0 e1 e2
      obtain ⟨x0, x1, x2⟩ : w2.cell? ⟨wr.heap.size, 0, none⟩ = some (.int .i64 x.k) ∧ w2.cell? ⟨wr.heap.size, 1, none⟩ = some (.int .i64 x.t) ∧ w2.cell? ⟨wr.heap.size, 2, none⟩ = some (.int .i64 x.o) := ⟨hNb3.cell rfl, hNb3.cell rfl, hNb3.cell rfl⟩
      gi_wp2_with fail
      refine ⟨trivial, (fun h => (by cases h)), (callsIn_wide.2 (isAcc_any x _)).mono ?_⟩
      rintro r w3 ⟨rfl, hk3⟩
      have hH4 := hH3.below hk3 hH3.lt
      have hb4 := hb3.trans (hk3.mono hb3.size)
      have hJ4 := hJ k _ w3 _ hJ3 (grown_of (b := W0.heap.size) hk3) (fun r e => by cases e; rfl)
      have hNb4 := hNb3.below hk3 hNb3.lt
      have hlt4 := hH4.lt
      clear hH3 hb3 hJ3 hNb3 x0 x1 x2 hk3
      cases hacc : isAcc x
      · have hJ5 := hN1 w3 hlt hacc hJ4
        have hH5 : Has w3 W0.heap.size (hdC (gdL z (k + 1)).H) hdT := by rw [HST.out]; exact hH4
        clear hN1 hY1 hJ4 hH4 hacc
        gi_wp2
        refine ⟨fun _ h => (by cases h), ?_⟩
        gi_wp2
        go_roundw
        case rel => exact ⟨k + 1, by omega, by go_num, hH5, hb4, hJ5⟩
        case measure => (simp [intOf]; try omega)
      · obtain ⟨fn, tmps, assign, body, hy, hR⟩ := hY1 w3 hacc hJ4 hlt4
        have ht6 : x.t.toNat < 6 := by omega
        obtain ⟨T, hT⟩ := Int.eq_ofNat_of_zero_le t0
        have hTT : x.t.toNat = T := by omega
        rw [hTT] at ht6
        have cHt := hH4.cell (clkC_get (fun i => ((hStep (gdL z k).H x i : Nat) : Int)) T ht6)
        have c1 : w3.cell? ⟨wr.heap.size, 1, none⟩ = some (.int .i64 (T : Int)) := by rw [← hT]; exact hNb4.cell rfl
        rw [HLK.out, hTT] at hy
        have T6 : (T : Int) < 6 := by omega
        clear t0 t6 hT hTT hHl hNb4
        gi_wp2
        refine ⟨(fun h => (by cases h)), hR.mono ?_⟩
        rintro e W5 ⟨rfl, hJ5, hk5, hB5⟩
        have hH5 : Has W5 W0.heap.size (hdC (gdL z (k + 1)).H) hdT := ⟨by rw [hB5, HST.out]; exact hH4.out⟩
        have hb5 := hb4.trans hk5
        clear hJ4 hH4 hb4 hk5 hB5 hR hy cHt c1
        gi_wp2
        go_roundw
        case rel => exact ⟨k + 1, by omega, by go_num, hH5, hb5, hJ5⟩
        case measure => (simp [intOf]; try omega)
    · obtain rfl : k = z.length := by omega
      gi_wp2
      go_end0
      exact ⟨⟨_, rfl⟩, hJk⟩
end Go.Proofs.Ytoohconipcleiaa
