/- Contract of guard.access. -/
import Derived.Test.YtfjbnhacfficnaaGreatDoorGdA
import Derived.Deep.RegionHeld3
namespace Go.Proofs.YtfjbnhacfficnaaGreatDoor
open Go.RowKit

abbrev gT : TypeId := 122
abbrev gC (g : GV) : Array Value := #[.int .i64 g.st, .int .i64 g.th, .int .i64 ((g.lk : Nat) : Int)]
set_option maxRecDepth 100000 in
set_option maxHeartbeats 4000000 in
theorem acc_same (th k o : Int) (lk L : Nat) (w : World) :
    Calls Tryz.prog 96 #[.agg (gC ⟨1, th, lk⟩), evV ⟨k, th, o⟩, .int .i64 ((L : Nat) : Int)] w fun r w' => r = .returned (.agg (gC ⟨1, th, lk⟩)) ∧ Below w.heap.size w w' := by
  obtain ⟨q1, r1⟩ : ∃ q, (k == 2) = q := ⟨_, rfl⟩
  have hb : Below w.heap.size w (((w.alloc (.cells (gC ⟨1, th, lk⟩) gT)).alloc (.cells (evC ⟨k, th, o⟩) 55)).alloc (.cells (evC ⟨0, 0, 0⟩) gT)) := (((Below.refl _ _).alloc (Nat.le_refl _) _).alloc (by simp) _).alloc (by simp; omega) _
  have h1 : Has (((w.alloc (.cells (gC ⟨1, th, lk⟩) gT)).alloc (.cells (evC ⟨k, th, o⟩) 55)).alloc (.cells (evC ⟨0, 0, 0⟩) gT)) w.heap.size (gC ⟨1, th, lk⟩) gT := ((Has.new w _ _).alloc _).alloc _
  have h2 : Has (((w.alloc (.cells (gC ⟨1, th, lk⟩) gT)).alloc (.cells (evC ⟨k, th, o⟩) 55)).alloc (.cells (evC ⟨0, 0, 0⟩) gT)) (w.heap.size + 1) (evC ⟨k, th, o⟩) 55 := ((Has.new (w.alloc _) _ _).at (by simp)).alloc _
  have h3 : Has (((w.alloc (.cells (gC ⟨1, th, lk⟩) gT)).alloc (.cells (evC ⟨k, th, o⟩) 55)).alloc (.cells (evC ⟨0, 0, 0⟩) gT)) (w.heap.size + 1 + 1) (evC ⟨0, 0, 0⟩) gT := (Has.new ((w.alloc _).alloc _) _ _).at (by simp)
  go_enter Tryz.func96, Tryz.ntmps96
  go_upto_region 1 with fail
  generalize ((w.alloc (.cells (gC ⟨1, th, lk⟩) gT)).alloc (.cells (evC ⟨k, th, o⟩) 55)).alloc (.cells (evC ⟨0, 0, 0⟩) gT) = w1 at *
  obtain ⟨a0, a1, a2⟩ : w1.cell? ⟨w.heap.size, 0, none⟩ = some (.int .i64 1) ∧ w1.cell? ⟨w.heap.size, 1, none⟩ = some (.int .i64 th) ∧ w1.cell? ⟨w.heap.size, 2, none⟩ = some (.int .i64 (lk : Int)) := ⟨h1.cell rfl, h1.cell rfl, h1.cell rfl⟩
  obtain ⟨e0, e1⟩ : w1.cell? ⟨w.heap.size + 1, 0, none⟩ = some (.int .i64 k) ∧ w1.cell? ⟨w.heap.size + 1, 1, none⟩ = some (.int .i64 th) := ⟨h2.cell rfl, h2.cell rfl⟩
  obtain ⟨z0, z1, z2⟩ : w1.cell? ⟨w.heap.size + 1 + 1, 0, none⟩ = some (.int .i64 0) ∧ w1.cell? ⟨w.heap.size + 1 + 1, 1, none⟩ = some (.int .i64 0) ∧ w1.cell? ⟨w.heap.size + 1 + 1, 2, none⟩ = some (.int .i64 0) := ⟨h3.cell rfl, h3.cell rfl, h3.cell rfl⟩
  obtain ⟨f0, f1, f2⟩ : w1.frozen? ⟨w.heap.size, 0, none⟩ = false ∧ w1.frozen? ⟨w.heap.size, 1, none⟩ = false ∧ w1.frozen? ⟨w.heap.size, 2, none⟩ = false := ⟨h1.free _, h1.free _, h1.free _⟩
  obtain ⟨y0, y1, y2⟩ : w1.frozen? ⟨w.heap.size + 1 + 1, 0, none⟩ = false ∧ w1.frozen? ⟨w.heap.size + 1 + 1, 1, none⟩ = false ∧ w1.frozen? ⟨w.heap.size + 1 + 1, 2, none⟩ = false := ⟨h3.free _, h3.free _, h3.free _⟩
  clear h1 h2 h3
  go_wp2
  refine bodyPost_ret (v := .agg (gC ⟨1, th, lk⟩)) (by simp [results, Tryz.results96, go_sem, *]) rfl ?_
  refine ⟨rfl, ?_⟩
  repeat (first | with_reducible exact hb | (with_reducible refine Below.setCell ?_ (by first | exact Nat.le_refl _ | (dsimp only; omega)) _) | (with_reducible refine Below.drew ?_))
set_option maxRecDepth 100000 in
set_option maxHeartbeats 4000000 in
theorem acc_new (th k t o : Int) (lk L : Nat) (w : World) :
    Calls Tryz.prog 96 #[.agg (gC ⟨0, th, lk⟩), evV ⟨k, t, o⟩, .int .i64 ((L : Nat) : Int)] w fun r w' => r = .returned (.agg (gC ⟨1, t, lk⟩)) ∧ Below w.heap.size w w' := by
  obtain ⟨q1, r1⟩ : ∃ q, (k == 2) = q := ⟨_, rfl⟩
  have hb : Below w.heap.size w (((w.alloc (.cells (gC ⟨0, th, lk⟩) gT)).alloc (.cells (evC ⟨k, t, o⟩) 55)).alloc (.cells (evC ⟨0, 0, 0⟩) gT)) := (((Below.refl _ _).alloc (Nat.le_refl _) _).alloc (by simp) _).alloc (by simp; omega) _
  have h1 : Has (((w.alloc (.cells (gC ⟨0, th, lk⟩) gT)).alloc (.cells (evC ⟨k, t, o⟩) 55)).alloc (.cells (evC ⟨0, 0, 0⟩) gT)) w.heap.size (gC ⟨0, th, lk⟩) gT := ((Has.new w _ _).alloc _).alloc _
  have h2 : Has (((w.alloc (.cells (gC ⟨0, th, lk⟩) gT)).alloc (.cells (evC ⟨k, t, o⟩) 55)).alloc (.cells (evC ⟨0, 0, 0⟩) gT)) (w.heap.size + 1) (evC ⟨k, t, o⟩) 55 := ((Has.new (w.alloc _) _ _).at (by simp)).alloc _
  have h3 : Has (((w.alloc (.cells (gC ⟨0, th, lk⟩) gT)).alloc (.cells (evC ⟨k, t, o⟩) 55)).alloc (.cells (evC ⟨0, 0, 0⟩) gT)) (w.heap.size + 1 + 1) (evC ⟨0, 0, 0⟩) gT := (Has.new ((w.alloc _).alloc _) _ _).at (by simp)
  go_enter Tryz.func96, Tryz.ntmps96
  go_upto_region 1 with fail
  generalize ((w.alloc (.cells (gC ⟨0, th, lk⟩) gT)).alloc (.cells (evC ⟨k, t, o⟩) 55)).alloc (.cells (evC ⟨0, 0, 0⟩) gT) = w1 at *
  obtain ⟨a0, a1, a2⟩ : w1.cell? ⟨w.heap.size, 0, none⟩ = some (.int .i64 0) ∧ w1.cell? ⟨w.heap.size, 1, none⟩ = some (.int .i64 th) ∧ w1.cell? ⟨w.heap.size, 2, none⟩ = some (.int .i64 (lk : Int)) := ⟨h1.cell rfl, h1.cell rfl, h1.cell rfl⟩
  obtain ⟨e0, e1⟩ : w1.cell? ⟨w.heap.size + 1, 0, none⟩ = some (.int .i64 k) ∧ w1.cell? ⟨w.heap.size + 1, 1, none⟩ = some (.int .i64 t) := ⟨h2.cell rfl, h2.cell rfl⟩
  obtain ⟨z0, z1, z2⟩ : w1.cell? ⟨w.heap.size + 1 + 1, 0, none⟩ = some (.int .i64 0) ∧ w1.cell? ⟨w.heap.size + 1 + 1, 1, none⟩ = some (.int .i64 0) ∧ w1.cell? ⟨w.heap.size + 1 + 1, 2, none⟩ = some (.int .i64 0) := ⟨h3.cell rfl, h3.cell rfl, h3.cell rfl⟩
  obtain ⟨f0, f1, f2⟩ : w1.frozen? ⟨w.heap.size, 0, none⟩ = false ∧ w1.frozen? ⟨w.heap.size, 1, none⟩ = false ∧ w1.frozen? ⟨w.heap.size, 2, none⟩ = false := ⟨h1.free _, h1.free _, h1.free _⟩
  obtain ⟨y0, y1, y2⟩ : w1.frozen? ⟨w.heap.size + 1 + 1, 0, none⟩ = false ∧ w1.frozen? ⟨w.heap.size + 1 + 1, 1, none⟩ = false ∧ w1.frozen? ⟨w.heap.size + 1 + 1, 2, none⟩ = false := ⟨h3.free _, h3.free _, h3.free _⟩
  clear h1 h2 h3
  go_wp2
  go_region
  go_wp2
  refine bodyPost_ret (v := .agg (gC ⟨1, t, lk⟩)) (by simp [results, Tryz.results96, go_sem, *]) rfl ?_
  refine ⟨rfl, ?_⟩
  repeat (first | with_reducible exact hb | (with_reducible refine Below.setCell ?_ (by first | exact Nat.le_refl _ | (dsimp only; omega)) _) | (with_reducible refine Below.drew ?_))
set_option maxRecDepth 100000 in
set_option maxHeartbeats 4000000 in
theorem acc_own2 (th t o : Int) (lk L : Nat) (w : World) (hne : th ≠ t) :
    Calls Tryz.prog 96 #[.agg (gC ⟨1, th, lk⟩), evV ⟨2, t, o⟩, .int .i64 ((L : Nat) : Int)] w fun r w' => r = .returned (.agg (gC ⟨3, th, L⟩)) ∧ Below w.heap.size w w' := by
  have n1 : (th == t) = false := beq_eq_false_iff_ne.2 hne
  clear hne
  have hb : Below w.heap.size w (((w.alloc (.cells (gC ⟨1, th, lk⟩) gT)).alloc (.cells (evC ⟨2, t, o⟩) 55)).alloc (.cells (evC ⟨0, 0, 0⟩) gT)) := (((Below.refl _ _).alloc (Nat.le_refl _) _).alloc (by simp) _).alloc (by simp; omega) _
  have h1 : Has (((w.alloc (.cells (gC ⟨1, th, lk⟩) gT)).alloc (.cells (evC ⟨2, t, o⟩) 55)).alloc (.cells (evC ⟨0, 0, 0⟩) gT)) w.heap.size (gC ⟨1, th, lk⟩) gT := ((Has.new w _ _).alloc _).alloc _
  have h2 : Has (((w.alloc (.cells (gC ⟨1, th, lk⟩) gT)).alloc (.cells (evC ⟨2, t, o⟩) 55)).alloc (.cells (evC ⟨0, 0, 0⟩) gT)) (w.heap.size + 1) (evC ⟨2, t, o⟩) 55 := ((Has.new (w.alloc _) _ _).at (by simp)).alloc _
  have h3 : Has (((w.alloc (.cells (gC ⟨1, th, lk⟩) gT)).alloc (.cells (evC ⟨2, t, o⟩) 55)).alloc (.cells (evC ⟨0, 0, 0⟩) gT)) (w.heap.size + 1 + 1) (evC ⟨0, 0, 0⟩) gT := (Has.new ((w.alloc _).alloc _) _ _).at (by simp)
  go_enter Tryz.func96, Tryz.ntmps96
  go_upto_region 1 with fail
  generalize ((w.alloc (.cells (gC ⟨1, th, lk⟩) gT)).alloc (.cells (evC ⟨2, t, o⟩) 55)).alloc (.cells (evC ⟨0, 0, 0⟩) gT) = w1 at *
  obtain ⟨a0, a1, a2⟩ : w1.cell? ⟨w.heap.size, 0, none⟩ = some (.int .i64 1) ∧ w1.cell? ⟨w.heap.size, 1, none⟩ = some (.int .i64 th) ∧ w1.cell? ⟨w.heap.size, 2, none⟩ = some (.int .i64 (lk : Int)) := ⟨h1.cell rfl, h1.cell rfl, h1.cell rfl⟩
  obtain ⟨e0, e1⟩ : w1.cell? ⟨w.heap.size + 1, 0, none⟩ = some (.int .i64 2) ∧ w1.cell? ⟨w.heap.size + 1, 1, none⟩ = some (.int .i64 t) := ⟨h2.cell rfl, h2.cell rfl⟩
  obtain ⟨z0, z1, z2⟩ : w1.cell? ⟨w.heap.size + 1 + 1, 0, none⟩ = some (.int .i64 0) ∧ w1.cell? ⟨w.heap.size + 1 + 1, 1, none⟩ = some (.int .i64 0) ∧ w1.cell? ⟨w.heap.size + 1 + 1, 2, none⟩ = some (.int .i64 0) := ⟨h3.cell rfl, h3.cell rfl, h3.cell rfl⟩
  obtain ⟨f0, f1, f2⟩ : w1.frozen? ⟨w.heap.size, 0, none⟩ = false ∧ w1.frozen? ⟨w.heap.size, 1, none⟩ = false ∧ w1.frozen? ⟨w.heap.size, 2, none⟩ = false := ⟨h1.free _, h1.free _, h1.free _⟩
  obtain ⟨y0, y1, y2⟩ : w1.frozen? ⟨w.heap.size + 1 + 1, 0, none⟩ = false ∧ w1.frozen? ⟨w.heap.size + 1 + 1, 1, none⟩ = false ∧ w1.frozen? ⟨w.heap.size + 1 + 1, 2, none⟩ = false := ⟨h3.free _, h3.free _, h3.free _⟩
  clear h1 h2 h3
  go_wp2
  refine bodyPost_ret (v := .agg (gC ⟨3, th, L⟩)) (by simp [results, Tryz.results96, go_sem, *]) rfl ?_
  refine ⟨rfl, ?_⟩
  repeat (first | with_reducible exact hb | (with_reducible refine Below.setCell ?_ (by first | exact Nat.le_refl _ | (dsimp only; omega)) _) | (with_reducible refine Below.drew ?_))
set_option maxRecDepth 100000 in
set_option maxHeartbeats 4000000 in
theorem acc_ownr (th k t o : Int) (lk L : Nat) (w : World) (hne : th ≠ t) (hk : k ≠ 2) :
    Calls Tryz.prog 96 #[.agg (gC ⟨1, th, lk⟩), evV ⟨k, t, o⟩, .int .i64 ((L : Nat) : Int)] w fun r w' => r = .returned (.agg (gC ⟨2, th, L⟩)) ∧ Below w.heap.size w w' := by
  have n1 : (th == t) = false := beq_eq_false_iff_ne.2 hne
  clear hne
  have k2 : (k == 2) = false := beq_eq_false_iff_ne.2 hk
  clear hk
  have hb : Below w.heap.size w (((w.alloc (.cells (gC ⟨1, th, lk⟩) gT)).alloc (.cells (evC ⟨k, t, o⟩) 55)).alloc (.cells (evC ⟨0, 0, 0⟩) gT)) := (((Below.refl _ _).alloc (Nat.le_refl _) _).alloc (by simp) _).alloc (by simp; omega) _
  have h1 : Has (((w.alloc (.cells (gC ⟨1, th, lk⟩) gT)).alloc (.cells (evC ⟨k, t, o⟩) 55)).alloc (.cells (evC ⟨0, 0, 0⟩) gT)) w.heap.size (gC ⟨1, th, lk⟩) gT := ((Has.new w _ _).alloc _).alloc _
  have h2 : Has (((w.alloc (.cells (gC ⟨1, th, lk⟩) gT)).alloc (.cells (evC ⟨k, t, o⟩) 55)).alloc (.cells (evC ⟨0, 0, 0⟩) gT)) (w.heap.size + 1) (evC ⟨k, t, o⟩) 55 := ((Has.new (w.alloc _) _ _).at (by simp)).alloc _
  have h3 : Has (((w.alloc (.cells (gC ⟨1, th, lk⟩) gT)).alloc (.cells (evC ⟨k, t, o⟩) 55)).alloc (.cells (evC ⟨0, 0, 0⟩) gT)) (w.heap.size + 1 + 1) (evC ⟨0, 0, 0⟩) gT := (Has.new ((w.alloc _).alloc _) _ _).at (by simp)
  go_enter Tryz.func96, Tryz.ntmps96
  go_upto_region 1 with fail
  generalize ((w.alloc (.cells (gC ⟨1, th, lk⟩) gT)).alloc (.cells (evC ⟨k, t, o⟩) 55)).alloc (.cells (evC ⟨0, 0, 0⟩) gT) = w1 at *
  obtain ⟨a0, a1, a2⟩ : w1.cell? ⟨w.heap.size, 0, none⟩ = some (.int .i64 1) ∧ w1.cell? ⟨w.heap.size, 1, none⟩ = some (.int .i64 th) ∧ w1.cell? ⟨w.heap.size, 2, none⟩ = some (.int .i64 (lk : Int)) := ⟨h1.cell rfl, h1.cell rfl, h1.cell rfl⟩
  obtain ⟨e0, e1⟩ : w1.cell? ⟨w.heap.size + 1, 0, none⟩ = some (.int .i64 k) ∧ w1.cell? ⟨w.heap.size + 1, 1, none⟩ = some (.int .i64 t) := ⟨h2.cell rfl, h2.cell rfl⟩
  obtain ⟨z0, z1, z2⟩ : w1.cell? ⟨w.heap.size + 1 + 1, 0, none⟩ = some (.int .i64 0) ∧ w1.cell? ⟨w.heap.size + 1 + 1, 1, none⟩ = some (.int .i64 0) ∧ w1.cell? ⟨w.heap.size + 1 + 1, 2, none⟩ = some (.int .i64 0) := ⟨h3.cell rfl, h3.cell rfl, h3.cell rfl⟩
  obtain ⟨f0, f1, f2⟩ : w1.frozen? ⟨w.heap.size, 0, none⟩ = false ∧ w1.frozen? ⟨w.heap.size, 1, none⟩ = false ∧ w1.frozen? ⟨w.heap.size, 2, none⟩ = false := ⟨h1.free _, h1.free _, h1.free _⟩
  obtain ⟨y0, y1, y2⟩ : w1.frozen? ⟨w.heap.size + 1 + 1, 0, none⟩ = false ∧ w1.frozen? ⟨w.heap.size + 1 + 1, 1, none⟩ = false ∧ w1.frozen? ⟨w.heap.size + 1 + 1, 2, none⟩ = false := ⟨h3.free _, h3.free _, h3.free _⟩
  clear h1 h2 h3
  go_wp2
  refine bodyPost_ret (v := .agg (gC ⟨2, th, L⟩)) (by simp [results, Tryz.results96, go_sem, *]) rfl ?_
  refine ⟨rfl, ?_⟩
  repeat (first | with_reducible exact hb | (with_reducible refine Below.setCell ?_ (by first | exact Nat.le_refl _ | (dsimp only; omega)) _) | (with_reducible refine Below.drew ?_))
set_option maxRecDepth 100000 in
set_option maxHeartbeats 4000000 in
theorem acc_else2 (s th t o : Int) (lk L : Nat) (w : World) (hs0 : s ≠ 0) (hs1 : s ≠ 1) (hlk : lk < 32) (hL : L < 32) :
    Calls Tryz.prog 96 #[.agg (gC ⟨s, th, lk⟩), evV ⟨2, t, o⟩, .int .i64 ((L : Nat) : Int)] w fun r w' => r = .returned (.agg (gC ⟨3, th, lk &&& L⟩)) ∧ Below w.heap.size w w' := by
  have s0 : (s == 0) = false := beq_eq_false_iff_ne.2 hs0
  have s1 : (s == 1) = false := beq_eq_false_iff_ne.2 hs1
  clear hs0 hs1
  have TAB := Lib.hid (show bits .and .i64 (lk : Int) (L : Int) = ((lk &&& L : Nat) : Int) from adB ⟨lk, hlk⟩ ⟨L, hL⟩)
  have hb : Below w.heap.size w (((w.alloc (.cells (gC ⟨s, th, lk⟩) gT)).alloc (.cells (evC ⟨2, t, o⟩) 55)).alloc (.cells (evC ⟨0, 0, 0⟩) gT)) := (((Below.refl _ _).alloc (Nat.le_refl _) _).alloc (by simp) _).alloc (by simp; omega) _
  have h1 : Has (((w.alloc (.cells (gC ⟨s, th, lk⟩) gT)).alloc (.cells (evC ⟨2, t, o⟩) 55)).alloc (.cells (evC ⟨0, 0, 0⟩) gT)) w.heap.size (gC ⟨s, th, lk⟩) gT := ((Has.new w _ _).alloc _).alloc _
  have h2 : Has (((w.alloc (.cells (gC ⟨s, th, lk⟩) gT)).alloc (.cells (evC ⟨2, t, o⟩) 55)).alloc (.cells (evC ⟨0, 0, 0⟩) gT)) (w.heap.size + 1) (evC ⟨2, t, o⟩) 55 := ((Has.new (w.alloc _) _ _).at (by simp)).alloc _
  have h3 : Has (((w.alloc (.cells (gC ⟨s, th, lk⟩) gT)).alloc (.cells (evC ⟨2, t, o⟩) 55)).alloc (.cells (evC ⟨0, 0, 0⟩) gT)) (w.heap.size + 1 + 1) (evC ⟨0, 0, 0⟩) gT := (Has.new ((w.alloc _).alloc _) _ _).at (by simp)
  go_enter Tryz.func96, Tryz.ntmps96
  go_upto_region 1 with fail
  generalize ((w.alloc (.cells (gC ⟨s, th, lk⟩) gT)).alloc (.cells (evC ⟨2, t, o⟩) 55)).alloc (.cells (evC ⟨0, 0, 0⟩) gT) = w1 at *
  obtain ⟨a0, a1, a2⟩ : w1.cell? ⟨w.heap.size, 0, none⟩ = some (.int .i64 s) ∧ w1.cell? ⟨w.heap.size, 1, none⟩ = some (.int .i64 th) ∧ w1.cell? ⟨w.heap.size, 2, none⟩ = some (.int .i64 (lk : Int)) := ⟨h1.cell rfl, h1.cell rfl, h1.cell rfl⟩
  obtain ⟨e0, e1⟩ : w1.cell? ⟨w.heap.size + 1, 0, none⟩ = some (.int .i64 2) ∧ w1.cell? ⟨w.heap.size + 1, 1, none⟩ = some (.int .i64 t) := ⟨h2.cell rfl, h2.cell rfl⟩
  obtain ⟨z0, z1, z2⟩ : w1.cell? ⟨w.heap.size + 1 + 1, 0, none⟩ = some (.int .i64 0) ∧ w1.cell? ⟨w.heap.size + 1 + 1, 1, none⟩ = some (.int .i64 0) ∧ w1.cell? ⟨w.heap.size + 1 + 1, 2, none⟩ = some (.int .i64 0) := ⟨h3.cell rfl, h3.cell rfl, h3.cell rfl⟩
  obtain ⟨f0, f1, f2⟩ : w1.frozen? ⟨w.heap.size, 0, none⟩ = false ∧ w1.frozen? ⟨w.heap.size, 1, none⟩ = false ∧ w1.frozen? ⟨w.heap.size, 2, none⟩ = false := ⟨h1.free _, h1.free _, h1.free _⟩
  obtain ⟨y0, y1, y2⟩ : w1.frozen? ⟨w.heap.size + 1 + 1, 0, none⟩ = false ∧ w1.frozen? ⟨w.heap.size + 1 + 1, 1, none⟩ = false ∧ w1.frozen? ⟨w.heap.size + 1 + 1, 2, none⟩ = false := ⟨h3.free _, h3.free _, h3.free _⟩
  clear h1 h2 h3
  go_wp2
  rw [TAB.out]
  refine bodyPost_ret (v := .agg (gC ⟨3, th, lk &&& L⟩)) (by simp [results, Tryz.results96, go_sem, *]) rfl ?_
  refine ⟨rfl, ?_⟩
  repeat (first | with_reducible exact hb | (with_reducible refine Below.setCell ?_ (by first | exact Nat.le_refl _ | (dsimp only; omega)) _) | (with_reducible refine Below.drew ?_))
set_option maxRecDepth 100000 in
set_option maxHeartbeats 4000000 in
theorem acc_elser (s th k t o : Int) (lk L : Nat) (w : World) (hs0 : s ≠ 0) (hs1 : s ≠ 1) (hlk : lk < 32) (hL : L < 32) (hk : k ≠ 2) :
    Calls Tryz.prog 96 #[.agg (gC ⟨s, th, lk⟩), evV ⟨k, t, o⟩, .int .i64 ((L : Nat) : Int)] w fun r w' => r = .returned (.agg (gC ⟨s, th, lk &&& L⟩)) ∧ Below w.heap.size w w' := by
  have s0 : (s == 0) = false := beq_eq_false_iff_ne.2 hs0
  have s1 : (s == 1) = false := beq_eq_false_iff_ne.2 hs1
  clear hs0 hs1
  have TAB := Lib.hid (show bits .and .i64 (lk : Int) (L : Int) = ((lk &&& L : Nat) : Int) from adB ⟨lk, hlk⟩ ⟨L, hL⟩)
  have k2 : (k == 2) = false := beq_eq_false_iff_ne.2 hk
  clear hk
  have hb : Below w.heap.size w (((w.alloc (.cells (gC ⟨s, th, lk⟩) gT)).alloc (.cells (evC ⟨k, t, o⟩) 55)).alloc (.cells (evC ⟨0, 0, 0⟩) gT)) := (((Below.refl _ _).alloc (Nat.le_refl _) _).alloc (by simp) _).alloc (by simp; omega) _
  have h1 : Has (((w.alloc (.cells (gC ⟨s, th, lk⟩) gT)).alloc (.cells (evC ⟨k, t, o⟩) 55)).alloc (.cells (evC ⟨0, 0, 0⟩) gT)) w.heap.size (gC ⟨s, th, lk⟩) gT := ((Has.new w _ _).alloc _).alloc _
  have h2 : Has (((w.alloc (.cells (gC ⟨s, th, lk⟩) gT)).alloc (.cells (evC ⟨k, t, o⟩) 55)).alloc (.cells (evC ⟨0, 0, 0⟩) gT)) (w.heap.size + 1) (evC ⟨k, t, o⟩) 55 := ((Has.new (w.alloc _) _ _).at (by simp)).alloc _
  have h3 : Has (((w.alloc (.cells (gC ⟨s, th, lk⟩) gT)).alloc (.cells (evC ⟨k, t, o⟩) 55)).alloc (.cells (evC ⟨0, 0, 0⟩) gT)) (w.heap.size + 1 + 1) (evC ⟨0, 0, 0⟩) gT := (Has.new ((w.alloc _).alloc _) _ _).at (by simp)
  go_enter Tryz.func96, Tryz.ntmps96
  go_upto_region 1 with fail
  generalize ((w.alloc (.cells (gC ⟨s, th, lk⟩) gT)).alloc (.cells (evC ⟨k, t, o⟩) 55)).alloc (.cells (evC ⟨0, 0, 0⟩) gT) = w1 at *
  obtain ⟨a0, a1, a2⟩ : w1.cell? ⟨w.heap.size, 0, none⟩ = some (.int .i64 s) ∧ w1.cell? ⟨w.heap.size, 1, none⟩ = some (.int .i64 th) ∧ w1.cell? ⟨w.heap.size, 2, none⟩ = some (.int .i64 (lk : Int)) := ⟨h1.cell rfl, h1.cell rfl, h1.cell rfl⟩
  obtain ⟨e0, e1⟩ : w1.cell? ⟨w.heap.size + 1, 0, none⟩ = some (.int .i64 k) ∧ w1.cell? ⟨w.heap.size + 1, 1, none⟩ = some (.int .i64 t) := ⟨h2.cell rfl, h2.cell rfl⟩
  obtain ⟨z0, z1, z2⟩ : w1.cell? ⟨w.heap.size + 1 + 1, 0, none⟩ = some (.int .i64 0) ∧ w1.cell? ⟨w.heap.size + 1 + 1, 1, none⟩ = some (.int .i64 0) ∧ w1.cell? ⟨w.heap.size + 1 + 1, 2, none⟩ = some (.int .i64 0) := ⟨h3.cell rfl, h3.cell rfl, h3.cell rfl⟩
  obtain ⟨f0, f1, f2⟩ : w1.frozen? ⟨w.heap.size, 0, none⟩ = false ∧ w1.frozen? ⟨w.heap.size, 1, none⟩ = false ∧ w1.frozen? ⟨w.heap.size, 2, none⟩ = false := ⟨h1.free _, h1.free _, h1.free _⟩
  obtain ⟨y0, y1, y2⟩ : w1.frozen? ⟨w.heap.size + 1 + 1, 0, none⟩ = false ∧ w1.frozen? ⟨w.heap.size + 1 + 1, 1, none⟩ = false ∧ w1.frozen? ⟨w.heap.size + 1 + 1, 2, none⟩ = false := ⟨h3.free _, h3.free _, h3.free _⟩
  clear h1 h2 h3
  go_wp2
  rw [TAB.out]
  refine bodyPost_ret (v := .agg (gC ⟨s, th, lk &&& L⟩)) (by simp [results, Tryz.results96, go_sem, *]) rfl ?_
  refine ⟨rfl, ?_⟩
  repeat (first | with_reducible exact hb | (with_reducible refine Below.setCell ?_ (by first | exact Nat.le_refl _ | (dsimp only; omega)) _) | (with_reducible refine Below.drew ?_))
theorem access_any (g : GV) (e : Ev) (L : Nat) (w : World) (hlk : g.lk < 32) (hL : L < 32) :
    Calls Tryz.prog 96 #[.agg (gC g), evV e, .int .i64 ((L : Nat) : Int)] w fun r w' => r = .returned (.agg (gC (gAcc g e L))) ∧ Below w.heap.size w w' := by
  obtain ⟨s, th, lk⟩ := g
  obtain ⟨k, t, o⟩ := e
  simp only at hlk
  by_cases s0 : s = 0
  · subst s0
    have hr : gAcc ⟨0, th, lk⟩ ⟨k, t, o⟩ L = ⟨1, t, lk⟩ := by simp [gAcc]
    rw [hr]
    exact acc_new th k t o lk L w
  by_cases s1 : s = 1
  · subst s1
    by_cases ht : th = t
    · subst ht
      have hr : gAcc ⟨1, th, lk⟩ ⟨k, th, o⟩ L = ⟨1, th, lk⟩ := by simp [gAcc]
      rw [hr]
      exact acc_same th k o lk L w
    · by_cases k2 : k = 2
      · subst k2
        have hr : gAcc ⟨1, th, lk⟩ ⟨2, t, o⟩ L = ⟨3, th, L⟩ := by simp [gAcc, ht]
        rw [hr]
        exact acc_own2 th t o lk L w ht
      · have hr : gAcc ⟨1, th, lk⟩ ⟨k, t, o⟩ L = ⟨2, th, L⟩ := by simp [gAcc, ht, k2]
        rw [hr]
        exact acc_ownr th k t o lk L w ht k2
  · by_cases k2 : k = 2
    · subst k2
      have hr : gAcc ⟨s, th, lk⟩ ⟨2, t, o⟩ L = ⟨3, th, lk &&& L⟩ := by simp [gAcc, s0, s1]
      rw [hr]
      exact acc_else2 s th t o lk L w s0 s1 hlk hL
    · have hr : gAcc ⟨s, th, lk⟩ ⟨k, t, o⟩ L = ⟨s, th, lk &&& L⟩ := by simp [gAcc, s0, s1, k2]
      rw [hr]
      exact acc_elser s th k t o lk L w s0 s1 hlk hL k2
end Go.Proofs.YtfjbnhacfficnaaGreatDoor
