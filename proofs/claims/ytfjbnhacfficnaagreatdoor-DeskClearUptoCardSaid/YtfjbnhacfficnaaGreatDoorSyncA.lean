/- Walks of the clocks' Sync: an Acquire, a Join, a See. -/
import Derived.Test.YtfjbnhacfficnaaGreatDoorKp
namespace Go.Proofs.YtfjbnhacfficnaaGreatDoor
open Go.RowKit

set_option maxRecDepth 100000 in
set_option maxHeartbeats 8000000 in
theorem ksync3 (s : Kp) (t o : Nat) (b : Nat) (w : World) (h : Has w b (kpC s) 172) (_ : KB s) (ht : t < 6) (ho : o < 5) :
    Calls Tryz.prog 91 #[.pointer (some ⟨b, 0, none⟩), evV ⟨3, t, o⟩] w fun r w' => r = .returned (.tuple #[]) ∧ KTook w w' b (kSync s ⟨3, t, o⟩) := by
  have h1 := h.alloc (.cells (evC ⟨3, t, o⟩) 55)
  have h0 := Has.new w (evC ⟨3, t, o⟩) 55
  have hb : Below w.heap.size w (w.alloc (.cells (evC ⟨3, t, o⟩) 55)) := (Below.refl _ _).alloc (by simp) _
  have hlt := h.lt
  have i0 : (0 : Int) ≤ t := by omega
  have i6 : (t : Int) < 6 := by omega
  have j0 : (0 : Int) ≤ o := by omega
  have j5 : (o : Int) < 5 := by omega
  have n0 : b ≠ w.heap.size := by omega
  go_enter Tryz.func91, Tryz.ntmps91
  go_wp2_with fail
  go_quiet (fail)
  replace h1 := h1.drewN nq
  replace h0 := h0.drewN nq
  replace hb := grown_of (b := b) (below_drewN hb nq)
  generalize (w.alloc (.cells (evC ⟨3, t, o⟩) 55)).drewN nq = w1 at *
  have f2 : w1.cell? ⟨w.heap.size, 2, none⟩ = some (.int .i64 (o : Int)) := h0.cell rfl
  have f1 : w1.cell? ⟨w.heap.size, 1, none⟩ = some (.int .i64 (t : Int)) := h0.cell rfl
  have f0 : w1.cell? ⟨w.heap.size, 0, none⟩ = some (.int .i64 3) := h0.cell rfl
  go_wp2_with fail
  obtain ⟨a0, a1, a2, a3, a4, a5⟩ := h1.th6 ht
  obtain ⟨b0, b1, b2, b3, b4, b5⟩ := h1.lk6 ho
  have p2 : w1.cell? ⟨w.heap.size, 2, none⟩ = some (.int .i64 (o : Int)) := h0.cell rfl
  go_region_law (first | (go_simp; go_at_call 98; refine (join_any (s.th t) (s.lk o) _).mono ?_; rintro r w2 ⟨rfl, hk⟩; have q1 := h1.drew.below hk h1.lt; have q0 := h0.drew.below hk h0.lt; have qb := hb.drewG.trans_below hk; obtain ⟨c0, c1, c2, c3, c4, c5⟩ := q1.th6 ht; have z := q1.free; have p3 : w2.cell? ⟨w.heap.size, 2, none⟩ = some (.int .i64 (o : Int)) := q0.cell rfl))
  all_goals
    clear a0 a1 a2 a3 a4 a5 b0 b1 b2 b3 b4 b5 c0 c1 c2 c3 c4 c5 z f0 f1 f2 p2 p3
    have s1 := q1.setSix (t * 6) (cmax (s.th t) (s.lk o)) _ (kpF_setTh s ht (cmax (s.th t) (s.lk o)))
    have s0 := q0.setCells_ne (b' := b) (Ne.symm n0) (clkC (cmax (s.th t) (s.lk o))).toList (t * 6)
    have sb := grownBy_setCells qb (clkC (cmax (s.th t) (s.lk o))).toList (t * 6)
    simp only [World.setCells, Nat.add_assoc, Nat.reduceAdd] at s1 s0 sb
    clear q1 q0 qb h1 h0 hb hk
    generalize ((((((w2.setCell _ _).setCell _ _).setCell _ _).setCell _ _).setCell _ _).setCell _ _) = w4 at *
    have hS1 : kSync s ⟨3, t, o⟩ = { s with th := updC s.th t (cmax (s.th t) (s.lk o)) } := by simp [kSync]
    rw [← hS1] at s1
    clear hS1 s0
    go_wp2
    go_end0
    exact ⟨rfl, ⟨s1, sb⟩⟩

set_option maxRecDepth 100000 in
set_option maxHeartbeats 8000000 in
theorem ksync6 (s : Kp) (t o : Nat) (b : Nat) (w : World) (h : Has w b (kpC s) 172) (_ : KB s) (ht : t < 6) (ho : o < 6) :
    Calls Tryz.prog 91 #[.pointer (some ⟨b, 0, none⟩), evV ⟨6, t, o⟩] w fun r w' => r = .returned (.tuple #[]) ∧ KTook w w' b (kSync s ⟨6, t, o⟩) := by
  have h1 := h.alloc (.cells (evC ⟨6, t, o⟩) 55)
  have h0 := Has.new w (evC ⟨6, t, o⟩) 55
  have hb : Below w.heap.size w (w.alloc (.cells (evC ⟨6, t, o⟩) 55)) := (Below.refl _ _).alloc (by simp) _
  have hlt := h.lt
  have i0 : (0 : Int) ≤ t := by omega
  have i6 : (t : Int) < 6 := by omega
  have j0 : (0 : Int) ≤ o := by omega
  have j5 : (o : Int) < 6 := by omega
  have n0 : b ≠ w.heap.size := by omega
  go_enter Tryz.func91, Tryz.ntmps91
  go_wp2_with fail
  go_quiet (fail)
  replace h1 := h1.drewN nq
  replace h0 := h0.drewN nq
  replace hb := grown_of (b := b) (below_drewN hb nq)
  generalize (w.alloc (.cells (evC ⟨6, t, o⟩) 55)).drewN nq = w1 at *
  have f2 : w1.cell? ⟨w.heap.size, 2, none⟩ = some (.int .i64 (o : Int)) := h0.cell rfl
  have f1 : w1.cell? ⟨w.heap.size, 1, none⟩ = some (.int .i64 (t : Int)) := h0.cell rfl
  have f0 : w1.cell? ⟨w.heap.size, 0, none⟩ = some (.int .i64 6) := h0.cell rfl
  go_wp2_with fail
  obtain ⟨a0, a1, a2, a3, a4, a5⟩ := h1.th6 ht
  obtain ⟨b0, b1, b2, b3, b4, b5⟩ := h1.th6 ho
  have p2 : w1.cell? ⟨w.heap.size, 2, none⟩ = some (.int .i64 (o : Int)) := h0.cell rfl
  go_region_law (first | (go_simp; go_at_call 98; refine (join_any (s.th t) (s.th o) _).mono ?_; rintro r w2 ⟨rfl, hk⟩; have q1 := h1.drew.below hk h1.lt; have q0 := h0.drew.below hk h0.lt; have qb := hb.drewG.trans_below hk; obtain ⟨c0, c1, c2, c3, c4, c5⟩ := q1.th6 ht; have z := q1.free; have p3 : w2.cell? ⟨w.heap.size, 2, none⟩ = some (.int .i64 (o : Int)) := q0.cell rfl))
  all_goals
    clear a0 a1 a2 a3 a4 a5 b0 b1 b2 b3 b4 b5 c0 c1 c2 c3 c4 c5 z f0 f1 f2 p2 p3
    have s1 := q1.setSix (t * 6) (cmax (s.th t) (s.th o)) _ (kpF_setTh s ht (cmax (s.th t) (s.th o)))
    have s0 := q0.setCells_ne (b' := b) (Ne.symm n0) (clkC (cmax (s.th t) (s.th o))).toList (t * 6)
    have sb := grownBy_setCells qb (clkC (cmax (s.th t) (s.th o))).toList (t * 6)
    simp only [World.setCells, Nat.add_assoc, Nat.reduceAdd] at s1 s0 sb
    clear q1 q0 qb h1 h0 hb hk
    generalize ((((((w2.setCell _ _).setCell _ _).setCell _ _).setCell _ _).setCell _ _).setCell _ _) = w4 at *
    have hS1 : kSync s ⟨6, t, o⟩ = { s with th := updC s.th t (cmax (s.th t) (s.th o)) } := by simp [kSync]
    rw [← hS1] at s1
    clear hS1 s0
    go_wp2
    go_end0
    exact ⟨rfl, ⟨s1, sb⟩⟩

set_option maxRecDepth 100000 in
set_option maxHeartbeats 8000000 in
theorem ksync7 (s : Kp) (t o : Nat) (b : Nat) (w : World) (h : Has w b (kpC s) 172) (_ : KB s) (ht : t < 6) (ho : o < 4) :
    Calls Tryz.prog 91 #[.pointer (some ⟨b, 0, none⟩), evV ⟨7, t, o⟩] w fun r w' => r = .returned (.tuple #[]) ∧ KTook w w' b (kSync s ⟨7, t, o⟩) := by
  have h1 := h.alloc (.cells (evC ⟨7, t, o⟩) 55)
  have h0 := Has.new w (evC ⟨7, t, o⟩) 55
  have hb : Below w.heap.size w (w.alloc (.cells (evC ⟨7, t, o⟩) 55)) := (Below.refl _ _).alloc (by simp) _
  have hlt := h.lt
  have i0 : (0 : Int) ≤ t := by omega
  have i6 : (t : Int) < 6 := by omega
  have j0 : (0 : Int) ≤ o := by omega
  have j5 : (o : Int) < 4 := by omega
  have n0 : b ≠ w.heap.size := by omega
  go_enter Tryz.func91, Tryz.ntmps91
  go_wp2_with fail
  go_quiet (fail)
  replace h1 := h1.drewN nq
  replace h0 := h0.drewN nq
  replace hb := grown_of (b := b) (below_drewN hb nq)
  generalize (w.alloc (.cells (evC ⟨7, t, o⟩) 55)).drewN nq = w1 at *
  have f2 : w1.cell? ⟨w.heap.size, 2, none⟩ = some (.int .i64 (o : Int)) := h0.cell rfl
  have f1 : w1.cell? ⟨w.heap.size, 1, none⟩ = some (.int .i64 (t : Int)) := h0.cell rfl
  have f0 : w1.cell? ⟨w.heap.size, 0, none⟩ = some (.int .i64 7) := h0.cell rfl
  go_wp2_with fail
  obtain ⟨a0, a1, a2, a3, a4, a5⟩ := h1.th6 ht
  obtain ⟨b0, b1, b2, b3, b4, b5⟩ := h1.vo6 ho
  have p2 : w1.cell? ⟨w.heap.size, 2, none⟩ = some (.int .i64 (o : Int)) := h0.cell rfl
  go_region_law (first | (go_simp; go_at_call 98; refine (join_any (s.th t) (s.vo o) _).mono ?_; rintro r w2 ⟨rfl, hk⟩; have q1 := h1.drew.below hk h1.lt; have q0 := h0.drew.below hk h0.lt; have qb := hb.drewG.trans_below hk; obtain ⟨c0, c1, c2, c3, c4, c5⟩ := q1.th6 ht; have z := q1.free; have p3 : w2.cell? ⟨w.heap.size, 2, none⟩ = some (.int .i64 (o : Int)) := q0.cell rfl))
  all_goals
    clear a0 a1 a2 a3 a4 a5 b0 b1 b2 b3 b4 b5 c0 c1 c2 c3 c4 c5 z f0 f1 f2 p2 p3
    have s1 := q1.setSix (t * 6) (cmax (s.th t) (s.vo o)) _ (kpF_setTh s ht (cmax (s.th t) (s.vo o)))
    have s0 := q0.setCells_ne (b' := b) (Ne.symm n0) (clkC (cmax (s.th t) (s.vo o))).toList (t * 6)
    have sb := grownBy_setCells qb (clkC (cmax (s.th t) (s.vo o))).toList (t * 6)
    simp only [World.setCells, Nat.add_assoc, Nat.reduceAdd] at s1 s0 sb
    clear q1 q0 qb h1 h0 hb hk
    generalize ((((((w2.setCell _ _).setCell _ _).setCell _ _).setCell _ _).setCell _ _).setCell _ _) = w4 at *
    have hS1 : kSync s ⟨7, t, o⟩ = { s with th := updC s.th t (cmax (s.th t) (s.vo o)) } := by simp [kSync]
    rw [← hS1] at s1
    clear hS1 s0
    go_wp2
    go_end0
    exact ⟨rfl, ⟨s1, sb⟩⟩

end Go.Proofs.YtfjbnhacfficnaaGreatDoor
