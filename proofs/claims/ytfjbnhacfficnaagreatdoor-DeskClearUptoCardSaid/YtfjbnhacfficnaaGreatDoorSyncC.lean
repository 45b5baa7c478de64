/- Walks of the clocks' Sync: a Show. -/
import Derived.Test.YtfjbnhacfficnaaGreatDoorKp
namespace Go.Proofs.YtfjbnhacfficnaaGreatDoor
open Go.RowKit

set_option maxRecDepth 100000 in
set_option maxHeartbeats 8000000 in
theorem ksync8 (s : Kp) (t o : Nat) (b : Nat) (w : World) (h : Has w b (kpC s) 172) (hB : KB s) (ht : t < 6) (ho : o < 4) :
    Calls Tryz.prog 91 #[.pointer (some ⟨b, 0, none⟩), evV ⟨8, t, o⟩] w fun r w' => r = .returned (.tuple #[]) ∧ KTook w w' b (kSync s ⟨8, t, o⟩) := by
  have bt := hB.th t t
  clear hB
  have h1 := h.alloc (.cells (evC ⟨8, t, o⟩) 55)
  have h0 := Has.new w (evC ⟨8, t, o⟩) 55
  have hb : Below w.heap.size w (w.alloc (.cells (evC ⟨8, t, o⟩) 55)) := (Below.refl _ _).alloc (by simp) _
  have hlt := h.lt
  have i0 : (0 : Int) ≤ t := by omega
  have i6 : (t : Int) < 6 := by omega
  have j0 : (0 : Int) ≤ o := by omega
  have j5 : (o : Int) < 4 := by omega
  have n0 : b ≠ w.heap.size := by omega
  go_enter Tryz.func91, Tryz.ntmps91
  go_wp2_with fail
  go_quiet (fail)
  replace h1 := h1.drewN nq
  replace h0 := h0.drewN nq
  replace hb := grown_of (b := b) (below_drewN hb nq)
  generalize (w.alloc (.cells (evC ⟨8, t, o⟩) 55)).drewN nq = w1 at *
  have f2 : w1.cell? ⟨w.heap.size, 2, none⟩ = some (.int .i64 (o : Int)) := h0.cell rfl
  have f1 : w1.cell? ⟨w.heap.size, 1, none⟩ = some (.int .i64 (t : Int)) := h0.cell rfl
  have f0 : w1.cell? ⟨w.heap.size, 0, none⟩ = some (.int .i64 8) := h0.cell rfl
  go_wp2_with fail
  obtain ⟨a0, a1, a2, a3, a4, a5⟩ := h1.vo6 ho
  obtain ⟨b0, b1, b2, b3, b4, b5⟩ := h1.th6 ht
  have p2 : w1.cell? ⟨w.heap.size, 2, none⟩ = some (.int .i64 (o : Int)) := h0.cell rfl
  go_region_law (first | (go_simp; go_at_call 98; refine (join_any (s.vo o) (s.th t) _).mono ?_; rintro r w2 ⟨rfl, hk⟩; have q1 := h1.drew.below hk h1.lt; have q0 := h0.drew.below hk h0.lt; have qb := hb.drewG.trans_below hk; obtain ⟨c0, c1, c2, c3, c4, c5⟩ := q1.vo6 ho; have z := q1.free; have p3 : w2.cell? ⟨w.heap.size, 2, none⟩ = some (.int .i64 (o : Int)) := q0.cell rfl))
  all_goals
    clear a0 a1 a2 a3 a4 a5 b0 b1 b2 b3 b4 b5 c0 c1 c2 c3 c4 c5 z f0 f1 f2 p2 p3
    have s1 := q1.setSix (66 + o * 6) (cmax (s.vo o) (s.th t)) _ (kpF_setVo s ho (cmax (s.vo o) (s.th t)))
    have s0 := q0.setCells_ne (b' := b) (Ne.symm n0) (clkC (cmax (s.vo o) (s.th t))).toList (66 + o * 6)
    have sb := grownBy_setCells qb (clkC (cmax (s.vo o) (s.th t))).toList (66 + o * 6)
    simp only [World.setCells, Nat.add_assoc, Nat.reduceAdd] at s1 s0 sb
    clear q1 q0 qb h1 h0 hb hk
    generalize ((((((w2.setCell _ _).setCell _ _).setCell _ _).setCell _ _).setCell _ _).setCell _ _) = w4 at *
    have hS1 : kSync s ⟨8, t, o⟩ = { ({ s with vo := updC s.vo o (cmax (s.vo o) (s.th t)) } : Kp) with th := updC ({ s with vo := updC s.vo o (cmax (s.vo o) (s.th t)) } : Kp).th t (tickC (({ s with vo := updC s.vo o (cmax (s.vo o) (s.th t)) } : Kp).th t) t) } := by simp [kSync]
    have bP : 0 ≤ ({ s with vo := updC s.vo o (cmax (s.vo o) (s.th t)) } : Kp).th t t ∧ ({ s with vo := updC s.vo o (cmax (s.vo o) (s.th t)) } : Kp).th t t ≤ 1000 := bt
    generalize ({ s with vo := updC s.vo o (cmax (s.vo o) (s.th t)) } : Kp) = sp at *
    have HS1 := Lib.hid hS1
    clear hS1
    have f2 : w4.cell? ⟨w.heap.size, 2, none⟩ = some (.int .i64 (o : Int)) := s0.cell rfl
    have f1 : w4.cell? ⟨w.heap.size, 1, none⟩ = some (.int .i64 (t : Int)) := s0.cell rfl
    have f0 : w4.cell? ⟨w.heap.size, 0, none⟩ = some (.int .i64 8) := s0.cell rfl
    have hw := IntWalk.i64_in (sp.th t t + 1) (by omega)
    have d1 : w4.cell? ⟨b, t * 6 + t, none⟩ = some (.int .i64 (sp.th t t)) := by rw [s1.addI (by omega), kpF_th sp ht ht]
    have d2 := s1.free (t * 6 + t)
    go_wp2_with fail
    go_region
    clear d1 d2 hw f0 f1 f2
    replace s1 : Has _ b (kpC { sp with th := updC sp.th t (tickC (sp.th t) t) }) 172 := ((s1.setCell (t * 6 + t) (.int .i64 (sp.th t t + 1))).drew).to (by rw [rowI_set]; exact rowI_congr fun i hi => by rw [kpF_tick sp ht _ i hi, kpF_same sp ht i hi])
    replace sb := (grown_set (a := ⟨b, t * 6 + t, none⟩) sb rfl (.int .i64 (sp.th t t + 1))).drewG
    rw [← HS1.out] at s1
    go_wp2
    go_end0
    exact ⟨rfl, ⟨s1, sb⟩⟩

end Go.Proofs.YtfjbnhacfficnaaGreatDoor
