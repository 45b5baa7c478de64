/- Contracts of package trace: takes, case by case. -/
import Derived.Test.YtmeidjhojanogaaDoorTrA
import Derived.IntWalk
namespace Go.Proofs.YtmeidjhojanogaaDoor
open Go.RowKit

/-- What a call of takes leaves: the block b holds the world, all else that was there is as it was. -/
structure Took (w w' : World) (b : Nat) (s : St) : Prop where
  has : Has w' b (stC s) 134
  grown : w.grownBy w' (some b)
theorem grown_of {w w' : World} {b : Nat} (h : Below w.heap.size w w') : w.grownBy w' (some b) := ⟨h.os, h.tape, h.output, h.size, fun k hk _ => h.block k hk⟩
theorem grown_set {w w' : World} {b : Nat} {a : Addr} (h : w.grownBy w' (some b)) (ha : a.block = b) (v : Value) : w.grownBy (w'.setCell a v) (some b) :=
  ⟨h.os, h.tape, h.output, by simpa [World.setCell] using h.size, fun k hk hne => (Below.heap_setCell _ _ _ _ (by rintro rfl; exact hne (by rw [ha]))).trans (h.block k hk hne)⟩
theorem _root_.Go.World.grownBy.drewG {w w' : World} {row : Option Nat} (h : w.grownBy w' row) : w.grownBy w'.drew row := ⟨h.os, h.tape, h.output, h.size, h.block⟩
theorem ev_eta {e : Ev} {k t o : Int} (h1 : e.k = k) (h2 : e.t = t) (h3 : e.o = o) : e = ⟨k, t, o⟩ := by cases e; simp_all

set_option maxHeartbeats 400000 in
theorem takes_bad (s : St) (e : Ev) (b : Nat) (w : World) (h : Has w b (stC s) 134) (hE : isEv e = false) :
    Calls Tryd.prog 53 #[.pointer (some ⟨b, 0, none⟩), evV e] w fun r w' => r = .returned (.int .i64 1) ∧ Took w w' b s := by
  have h1 := h.alloc (.cells (evC e) 30)
  have h0 := Has.new w (evC e) 30
  have hb : Below w.heap.size w (w.alloc (.cells (evC e) 30)) := (Below.refl _ _).alloc (by simp) _
  have hlt := h.lt
  go_enter Tryd.func53, Tryd.ntmps53
  go_wp2_with fail
  generalize w.alloc (.cells (evC e) 30) = w1 at *
  refine (isEvent_any e _).mono ?_
  rintro r w2 ⟨rfl, hk⟩
  rw [hE]
  replace h1 := h1.below hk h1.lt
  replace h0 := h0.below hk h0.lt
  replace hb := hb.trans (hk.mono hb.size)
  have hne : b ≠ w.heap.size := by omega
  clear hk hE
  go_wp2
  go_ret
  exact ⟨rfl, h1, grown_of hb⟩

set_option maxHeartbeats 1000000 in
theorem takes_unbegun (s : St) (K : Int) (t o : Nat) (b : Nat) (w : World) (h : Has w b (stC s) 134) (hE : isEv ⟨K, t, o⟩ = true) (ht : t < 6) (x1 : s.begun t = false) :
    Calls Tryd.prog 53 #[.pointer (some ⟨b, 0, none⟩), evV ⟨K, t, o⟩] w fun r w' => r = .returned (.int .i64 11) ∧ Took w w' b s := by
  have h1 := h.alloc (.cells (evC ⟨K, t, o⟩) 30)
  have h0 := Has.new w (evC ⟨K, t, o⟩) 30
  have hb : Below w.heap.size w (w.alloc (.cells (evC ⟨K, t, o⟩) 30)) := (Below.refl _ _).alloc (by simp) _
  have hlt := h.lt
  go_enter Tryd.func53, Tryd.ntmps53
  go_wp2_with fail
  generalize w.alloc (.cells (evC ⟨K, t, o⟩) 30) = w1 at *
  refine (isEvent_any ⟨K, t, o⟩ _).mono ?_
  rintro r w2 ⟨rfl, hk⟩
  rw [hE]
  replace h1 := h1.below hk h1.lt
  replace h0 := h0.below hk h0.lt
  replace hb := hb.trans (hk.mono hb.size)
  have hne : b ≠ w.heap.size := by omega
  clear hk hE
  have f1 : w2.cell? ⟨w.heap.size, 1, none⟩ = some (.int .i64 (t : Int)) := h0.cell rfl
  have f2 : w2.cell? ⟨w.heap.size, 2, none⟩ = some (.int .i64 (o : Int)) := h0.cell rfl
  have f0 : w2.cell? ⟨w.heap.size, 0, none⟩ = some (.int .i64 K) := h0.cell rfl
  have hb1 : w2.cell? ⟨b, t, none⟩ = some (.bool (s.begun t)) := h1.cell (stC_begun s t ht)
  have i0 : (0 : Int) ≤ t := by omega
  have i6 : (t : Int) < 6 := by omega
  rw [x1] at hb1
  go_wp2
  go_quiet (fail)
  go_wp2
  go_ret
  exact ⟨rfl, by first | exact h1.drewN _ | exact (h1.drewN _).drewN _, by first | exact grown_of (below_drewN hb _) | exact grown_of (below_drewN (below_drewN hb _) _)⟩

set_option maxHeartbeats 1000000 in
theorem takes_over (s : St) (K : Int) (t o : Nat) (b : Nat) (w : World) (h : Has w b (stC s) 134) (hE : isEv ⟨K, t, o⟩ = true) (ht : t < 6) (x1 : s.begun t = true) (x2 : s.over t = true) :
    Calls Tryd.prog 53 #[.pointer (some ⟨b, 0, none⟩), evV ⟨K, t, o⟩] w fun r w' => r = .returned (.int .i64 11) ∧ Took w w' b s := by
  have h1 := h.alloc (.cells (evC ⟨K, t, o⟩) 30)
  have h0 := Has.new w (evC ⟨K, t, o⟩) 30
  have hb : Below w.heap.size w (w.alloc (.cells (evC ⟨K, t, o⟩) 30)) := (Below.refl _ _).alloc (by simp) _
  have hlt := h.lt
  go_enter Tryd.func53, Tryd.ntmps53
  go_wp2_with fail
  generalize w.alloc (.cells (evC ⟨K, t, o⟩) 30) = w1 at *
  refine (isEvent_any ⟨K, t, o⟩ _).mono ?_
  rintro r w2 ⟨rfl, hk⟩
  rw [hE]
  replace h1 := h1.below hk h1.lt
  replace h0 := h0.below hk h0.lt
  replace hb := hb.trans (hk.mono hb.size)
  have hne : b ≠ w.heap.size := by omega
  clear hk hE
  have f1 : w2.cell? ⟨w.heap.size, 1, none⟩ = some (.int .i64 (t : Int)) := h0.cell rfl
  have f2 : w2.cell? ⟨w.heap.size, 2, none⟩ = some (.int .i64 (o : Int)) := h0.cell rfl
  have f0 : w2.cell? ⟨w.heap.size, 0, none⟩ = some (.int .i64 K) := h0.cell rfl
  have hb1 : w2.cell? ⟨b, t, none⟩ = some (.bool (s.begun t)) := h1.cell (stC_begun s t ht)
  have i0 : (0 : Int) ≤ t := by omega
  have i6 : (t : Int) < 6 := by omega
  have hb2 : w2.cell? ⟨b, 6 + t, none⟩ = some (.bool (s.over t)) := h1.cell (stC_over s t ht)
  rw [x1] at hb1
  rw [x2] at hb2
  go_wp2
  go_quiet (fail)
  go_wp2
  go_ret
  exact ⟨rfl, by first | exact h1.drewN _ | exact (h1.drewN _).drewN _, by first | exact grown_of (below_drewN hb _) | exact grown_of (below_drewN (below_drewN hb _) _)⟩

set_option maxHeartbeats 1000000 in
theorem takes_plain1 (s : St) (t o : Nat) (b : Nat) (w : World) (h : Has w b (stC s) 134) (hE : isEv ⟨1, t, o⟩ = true) (ht : t < 6) (x1 : s.begun t = true) (x2 : s.over t = false) :
    Calls Tryd.prog 53 #[.pointer (some ⟨b, 0, none⟩), evV ⟨1, t, o⟩] w fun r w' => r = .returned (.int .i64 0) ∧ Took w w' b s := by
  have h1 := h.alloc (.cells (evC ⟨1, t, o⟩) 30)
  have h0 := Has.new w (evC ⟨1, t, o⟩) 30
  have hb : Below w.heap.size w (w.alloc (.cells (evC ⟨1, t, o⟩) 30)) := (Below.refl _ _).alloc (by simp) _
  have hlt := h.lt
  go_enter Tryd.func53, Tryd.ntmps53
  go_wp2_with fail
  generalize w.alloc (.cells (evC ⟨1, t, o⟩) 30) = w1 at *
  refine (isEvent_any ⟨1, t, o⟩ _).mono ?_
  rintro r w2 ⟨rfl, hk⟩
  rw [hE]
  replace h1 := h1.below hk h1.lt
  replace h0 := h0.below hk h0.lt
  replace hb := hb.trans (hk.mono hb.size)
  have hne : b ≠ w.heap.size := by omega
  clear hk hE
  have f1 : w2.cell? ⟨w.heap.size, 1, none⟩ = some (.int .i64 (t : Int)) := h0.cell rfl
  have f2 : w2.cell? ⟨w.heap.size, 2, none⟩ = some (.int .i64 (o : Int)) := h0.cell rfl
  have f0 : w2.cell? ⟨w.heap.size, 0, none⟩ = some (.int .i64 1) := h0.cell rfl
  have hb1 : w2.cell? ⟨b, t, none⟩ = some (.bool (s.begun t)) := h1.cell (stC_begun s t ht)
  have i0 : (0 : Int) ≤ t := by omega
  have i6 : (t : Int) < 6 := by omega
  have hb2 : w2.cell? ⟨b, 6 + t, none⟩ = some (.bool (s.over t)) := h1.cell (stC_over s t ht)
  rw [x1] at hb1
  rw [x2] at hb2
  go_wp2
  go_quiet (fail)
  go_wp2
  go_ret
  exact ⟨rfl, by first | exact h1.drewN _ | exact (h1.drewN _).drewN _, by first | exact grown_of (below_drewN hb _) | exact grown_of (below_drewN (below_drewN hb _) _)⟩

set_option maxHeartbeats 1000000 in
theorem takes_plain2 (s : St) (t o : Nat) (b : Nat) (w : World) (h : Has w b (stC s) 134) (hE : isEv ⟨2, t, o⟩ = true) (ht : t < 6) (x1 : s.begun t = true) (x2 : s.over t = false) :
    Calls Tryd.prog 53 #[.pointer (some ⟨b, 0, none⟩), evV ⟨2, t, o⟩] w fun r w' => r = .returned (.int .i64 0) ∧ Took w w' b s := by
  have h1 := h.alloc (.cells (evC ⟨2, t, o⟩) 30)
  have h0 := Has.new w (evC ⟨2, t, o⟩) 30
  have hb : Below w.heap.size w (w.alloc (.cells (evC ⟨2, t, o⟩) 30)) := (Below.refl _ _).alloc (by simp) _
  have hlt := h.lt
  go_enter Tryd.func53, Tryd.ntmps53
  go_wp2_with fail
  generalize w.alloc (.cells (evC ⟨2, t, o⟩) 30) = w1 at *
  refine (isEvent_any ⟨2, t, o⟩ _).mono ?_
  rintro r w2 ⟨rfl, hk⟩
  rw [hE]
  replace h1 := h1.below hk h1.lt
  replace h0 := h0.below hk h0.lt
  replace hb := hb.trans (hk.mono hb.size)
  have hne : b ≠ w.heap.size := by omega
  clear hk hE
  have f1 : w2.cell? ⟨w.heap.size, 1, none⟩ = some (.int .i64 (t : Int)) := h0.cell rfl
  have f2 : w2.cell? ⟨w.heap.size, 2, none⟩ = some (.int .i64 (o : Int)) := h0.cell rfl
  have f0 : w2.cell? ⟨w.heap.size, 0, none⟩ = some (.int .i64 2) := h0.cell rfl
  have hb1 : w2.cell? ⟨b, t, none⟩ = some (.bool (s.begun t)) := h1.cell (stC_begun s t ht)
  have i0 : (0 : Int) ≤ t := by omega
  have i6 : (t : Int) < 6 := by omega
  have hb2 : w2.cell? ⟨b, 6 + t, none⟩ = some (.bool (s.over t)) := h1.cell (stC_over s t ht)
  rw [x1] at hb1
  rw [x2] at hb2
  go_wp2
  go_quiet (fail)
  go_wp2
  go_ret
  exact ⟨rfl, by first | exact h1.drewN _ | exact (h1.drewN _).drewN _, by first | exact grown_of (below_drewN hb _) | exact grown_of (below_drewN (below_drewN hb _) _)⟩

set_option maxHeartbeats 1000000 in
theorem takes_plain7 (s : St) (t o : Nat) (b : Nat) (w : World) (h : Has w b (stC s) 134) (hE : isEv ⟨7, t, o⟩ = true) (ht : t < 6) (x1 : s.begun t = true) (x2 : s.over t = false) :
    Calls Tryd.prog 53 #[.pointer (some ⟨b, 0, none⟩), evV ⟨7, t, o⟩] w fun r w' => r = .returned (.int .i64 0) ∧ Took w w' b s := by
  have h1 := h.alloc (.cells (evC ⟨7, t, o⟩) 30)
  have h0 := Has.new w (evC ⟨7, t, o⟩) 30
  have hb : Below w.heap.size w (w.alloc (.cells (evC ⟨7, t, o⟩) 30)) := (Below.refl _ _).alloc (by simp) _
  have hlt := h.lt
  go_enter Tryd.func53, Tryd.ntmps53
  go_wp2_with fail
  generalize w.alloc (.cells (evC ⟨7, t, o⟩) 30) = w1 at *
  refine (isEvent_any ⟨7, t, o⟩ _).mono ?_
  rintro r w2 ⟨rfl, hk⟩
  rw [hE]
  replace h1 := h1.below hk h1.lt
  replace h0 := h0.below hk h0.lt
  replace hb := hb.trans (hk.mono hb.size)
  have hne : b ≠ w.heap.size := by omega
  clear hk hE
  have f1 : w2.cell? ⟨w.heap.size, 1, none⟩ = some (.int .i64 (t : Int)) := h0.cell rfl
  have f2 : w2.cell? ⟨w.heap.size, 2, none⟩ = some (.int .i64 (o : Int)) := h0.cell rfl
  have f0 : w2.cell? ⟨w.heap.size, 0, none⟩ = some (.int .i64 7) := h0.cell rfl
  have hb1 : w2.cell? ⟨b, t, none⟩ = some (.bool (s.begun t)) := h1.cell (stC_begun s t ht)
  have i0 : (0 : Int) ≤ t := by omega
  have i6 : (t : Int) < 6 := by omega
  have hb2 : w2.cell? ⟨b, 6 + t, none⟩ = some (.bool (s.over t)) := h1.cell (stC_over s t ht)
  rw [x1] at hb1
  rw [x2] at hb2
  go_wp2
  go_quiet (fail)
  go_wp2
  go_ret
  exact ⟨rfl, by first | exact h1.drewN _ | exact (h1.drewN _).drewN _, by first | exact grown_of (below_drewN hb _) | exact grown_of (below_drewN (below_drewN hb _) _)⟩

set_option maxHeartbeats 1000000 in
theorem takes_plain8 (s : St) (t o : Nat) (b : Nat) (w : World) (h : Has w b (stC s) 134) (hE : isEv ⟨8, t, o⟩ = true) (ht : t < 6) (x1 : s.begun t = true) (x2 : s.over t = false) :
    Calls Tryd.prog 53 #[.pointer (some ⟨b, 0, none⟩), evV ⟨8, t, o⟩] w fun r w' => r = .returned (.int .i64 0) ∧ Took w w' b s := by
  have h1 := h.alloc (.cells (evC ⟨8, t, o⟩) 30)
  have h0 := Has.new w (evC ⟨8, t, o⟩) 30
  have hb : Below w.heap.size w (w.alloc (.cells (evC ⟨8, t, o⟩) 30)) := (Below.refl _ _).alloc (by simp) _
  have hlt := h.lt
  go_enter Tryd.func53, Tryd.ntmps53
  go_wp2_with fail
  generalize w.alloc (.cells (evC ⟨8, t, o⟩) 30) = w1 at *
  refine (isEvent_any ⟨8, t, o⟩ _).mono ?_
  rintro r w2 ⟨rfl, hk⟩
  rw [hE]
  replace h1 := h1.below hk h1.lt
  replace h0 := h0.below hk h0.lt
  replace hb := hb.trans (hk.mono hb.size)
  have hne : b ≠ w.heap.size := by omega
  clear hk hE
  have f1 : w2.cell? ⟨w.heap.size, 1, none⟩ = some (.int .i64 (t : Int)) := h0.cell rfl
  have f2 : w2.cell? ⟨w.heap.size, 2, none⟩ = some (.int .i64 (o : Int)) := h0.cell rfl
  have f0 : w2.cell? ⟨w.heap.size, 0, none⟩ = some (.int .i64 8) := h0.cell rfl
  have hb1 : w2.cell? ⟨b, t, none⟩ = some (.bool (s.begun t)) := h1.cell (stC_begun s t ht)
  have i0 : (0 : Int) ≤ t := by omega
  have i6 : (t : Int) < 6 := by omega
  have hb2 : w2.cell? ⟨b, 6 + t, none⟩ = some (.bool (s.over t)) := h1.cell (stC_over s t ht)
  rw [x1] at hb1
  rw [x2] at hb2
  go_wp2
  go_quiet (fail)
  go_wp2
  go_ret
  exact ⟨rfl, by first | exact h1.drewN _ | exact (h1.drewN _).drewN _, by first | exact grown_of (below_drewN hb _) | exact grown_of (below_drewN (below_drewN hb _) _)⟩

set_option maxHeartbeats 1000000 in
theorem takes_held (s : St) (t o : Nat) (b : Nat) (w : World) (h : Has w b (stC s) 134) (hE : isEv ⟨3, t, o⟩ = true) (ht : t < 6) (x1 : s.begun t = true) (x2 : s.over t = false) (ho5 : o < 5) (x3 : s.owner o ≠ 0) :
    Calls Tryd.prog 53 #[.pointer (some ⟨b, 0, none⟩), evV ⟨3, t, o⟩] w fun r w' => r = .returned (.int .i64 9) ∧ Took w w' b s := by
  have h1 := h.alloc (.cells (evC ⟨3, t, o⟩) 30)
  have h0 := Has.new w (evC ⟨3, t, o⟩) 30
  have hb : Below w.heap.size w (w.alloc (.cells (evC ⟨3, t, o⟩) 30)) := (Below.refl _ _).alloc (by simp) _
  have hlt := h.lt
  go_enter Tryd.func53, Tryd.ntmps53
  go_wp2_with fail
  generalize w.alloc (.cells (evC ⟨3, t, o⟩) 30) = w1 at *
  refine (isEvent_any ⟨3, t, o⟩ _).mono ?_
  rintro r w2 ⟨rfl, hk⟩
  rw [hE]
  replace h1 := h1.below hk h1.lt
  replace h0 := h0.below hk h0.lt
  replace hb := hb.trans (hk.mono hb.size)
  have hne : b ≠ w.heap.size := by omega
  clear hk hE
  have f1 : w2.cell? ⟨w.heap.size, 1, none⟩ = some (.int .i64 (t : Int)) := h0.cell rfl
  have f2 : w2.cell? ⟨w.heap.size, 2, none⟩ = some (.int .i64 (o : Int)) := h0.cell rfl
  have f0 : w2.cell? ⟨w.heap.size, 0, none⟩ = some (.int .i64 3) := h0.cell rfl
  have hb1 : w2.cell? ⟨b, t, none⟩ = some (.bool (s.begun t)) := h1.cell (stC_begun s t ht)
  have i0 : (0 : Int) ≤ t := by omega
  have i6 : (t : Int) < 6 := by omega
  have j0 : (0 : Int) ≤ o := by omega
  have j5 : (o : Int) < 5 := by omega
  have ho : w2.cell? ⟨b, 12 + o, none⟩ = some (.int .i64 (s.owner o)) := h1.cell (stC_owner s o ho5)
  have fo := h1.free (12 + o)
  have y : (s.owner o != 0) = true := by simpa using x3
  have hb2 : w2.cell? ⟨b, 6 + t, none⟩ = some (.bool (s.over t)) := h1.cell (stC_over s t ht)
  rw [x1] at hb1
  rw [x2] at hb2
  go_wp2
  go_quiet (fail)
  go_wp2
  go_quiet (fail)
  go_wp2
  go_ret
  exact ⟨rfl, by first | exact h1.drewN _ | exact (h1.drewN _).drewN _, by first | exact grown_of (below_drewN hb _) | exact grown_of (below_drewN (below_drewN hb _) _)⟩

set_option maxHeartbeats 1000000 in
theorem takes_acquire (s : St) (t o : Nat) (b : Nat) (w : World) (h : Has w b (stC s) 134) (hE : isEv ⟨3, t, o⟩ = true) (ht : t < 6) (x1 : s.begun t = true) (x2 : s.over t = false) (ho5 : o < 5) (x3 : s.owner o = 0) :
    Calls Tryd.prog 53 #[.pointer (some ⟨b, 0, none⟩), evV ⟨3, t, o⟩] w fun r w' => r = .returned (.int .i64 0) ∧ Took w w' b { s with owner := updI s.owner o (t + 1) } := by
  have h1 := h.alloc (.cells (evC ⟨3, t, o⟩) 30)
  have h0 := Has.new w (evC ⟨3, t, o⟩) 30
  have hb : Below w.heap.size w (w.alloc (.cells (evC ⟨3, t, o⟩) 30)) := (Below.refl _ _).alloc (by simp) _
  have hlt := h.lt
  go_enter Tryd.func53, Tryd.ntmps53
  go_wp2_with fail
  generalize w.alloc (.cells (evC ⟨3, t, o⟩) 30) = w1 at *
  refine (isEvent_any ⟨3, t, o⟩ _).mono ?_
  rintro r w2 ⟨rfl, hk⟩
  rw [hE]
  replace h1 := h1.below hk h1.lt
  replace h0 := h0.below hk h0.lt
  replace hb := hb.trans (hk.mono hb.size)
  have hne : b ≠ w.heap.size := by omega
  clear hk hE
  have f1 : w2.cell? ⟨w.heap.size, 1, none⟩ = some (.int .i64 (t : Int)) := h0.cell rfl
  have f2 : w2.cell? ⟨w.heap.size, 2, none⟩ = some (.int .i64 (o : Int)) := h0.cell rfl
  have f0 : w2.cell? ⟨w.heap.size, 0, none⟩ = some (.int .i64 3) := h0.cell rfl
  have hb1 : w2.cell? ⟨b, t, none⟩ = some (.bool (s.begun t)) := h1.cell (stC_begun s t ht)
  have i0 : (0 : Int) ≤ t := by omega
  have i6 : (t : Int) < 6 := by omega
  have j0 : (0 : Int) ≤ o := by omega
  have j5 : (o : Int) < 5 := by omega
  have ho : w2.cell? ⟨b, 12 + o, none⟩ = some (.int .i64 (s.owner o)) := h1.cell (stC_owner s o ho5)
  have fo := h1.free (12 + o)
  rw [x3] at ho
  have hb2 : w2.cell? ⟨b, 6 + t, none⟩ = some (.bool (s.over t)) := h1.cell (stC_over s t ht)
  rw [x1] at hb1
  rw [x2] at hb2
  go_wp2
  go_quiet (fail)
  go_wp2
  go_quiet (fail)
  go_wp2
  go_region
  all_goals
    go_wp2
    go_ret
    refine ⟨rfl, ?_, ?_⟩
    · first | exact ((((h1.drewN _).drewN _).drew).setCell _ _).to (stC_setOwner s o ho5 _) | exact (((h1.drewN _).drew).setCell _ _).to (stC_setOwner s o ho5 _) | exact ((((h1.drewN _).drewN _).setCell _ _)).drew.to (stC_setOwner s o ho5 _)
    · first | exact grown_set (grown_of ((below_drewN (below_drewN hb _) _).drew)) rfl _ | exact grown_set (grown_of (below_drewN hb _).drew) rfl _ | exact (grown_set (grown_of (below_drewN (below_drewN hb _) _)) rfl _).drewG

set_option maxHeartbeats 1000000 in
theorem takes_notheld (s : St) (t o : Nat) (b : Nat) (w : World) (h : Has w b (stC s) 134) (hE : isEv ⟨4, t, o⟩ = true) (ht : t < 6) (x1 : s.begun t = true) (x2 : s.over t = false) (ho5 : o < 5) (x3 : s.owner o ≠ t + 1) :
    Calls Tryd.prog 53 #[.pointer (some ⟨b, 0, none⟩), evV ⟨4, t, o⟩] w fun r w' => r = .returned (.int .i64 10) ∧ Took w w' b s := by
  have h1 := h.alloc (.cells (evC ⟨4, t, o⟩) 30)
  have h0 := Has.new w (evC ⟨4, t, o⟩) 30
  have hb : Below w.heap.size w (w.alloc (.cells (evC ⟨4, t, o⟩) 30)) := (Below.refl _ _).alloc (by simp) _
  have hlt := h.lt
  go_enter Tryd.func53, Tryd.ntmps53
  go_wp2_with fail
  generalize w.alloc (.cells (evC ⟨4, t, o⟩) 30) = w1 at *
  refine (isEvent_any ⟨4, t, o⟩ _).mono ?_
  rintro r w2 ⟨rfl, hk⟩
  rw [hE]
  replace h1 := h1.below hk h1.lt
  replace h0 := h0.below hk h0.lt
  replace hb := hb.trans (hk.mono hb.size)
  have hne : b ≠ w.heap.size := by omega
  clear hk hE
  have f1 : w2.cell? ⟨w.heap.size, 1, none⟩ = some (.int .i64 (t : Int)) := h0.cell rfl
  have f2 : w2.cell? ⟨w.heap.size, 2, none⟩ = some (.int .i64 (o : Int)) := h0.cell rfl
  have f0 : w2.cell? ⟨w.heap.size, 0, none⟩ = some (.int .i64 4) := h0.cell rfl
  have hb1 : w2.cell? ⟨b, t, none⟩ = some (.bool (s.begun t)) := h1.cell (stC_begun s t ht)
  have i0 : (0 : Int) ≤ t := by omega
  have i6 : (t : Int) < 6 := by omega
  have j0 : (0 : Int) ≤ o := by omega
  have j5 : (o : Int) < 5 := by omega
  have ho : w2.cell? ⟨b, 12 + o, none⟩ = some (.int .i64 (s.owner o)) := h1.cell (stC_owner s o ho5)
  have fo := h1.free (12 + o)
  have y : (s.owner o != (t : Int) + 1) = true := by simpa using x3
  have hwr := IntWalk.i64_in ((t : Int) + 1) (by omega)
  have hb2 : w2.cell? ⟨b, 6 + t, none⟩ = some (.bool (s.over t)) := h1.cell (stC_over s t ht)
  rw [x1] at hb1
  rw [x2] at hb2
  go_wp2
  go_quiet (fail)
  go_wp2
  go_quiet (fail)
  go_wp2
  go_ret
  exact ⟨rfl, by first | exact h1.drewN _ | exact (h1.drewN _).drewN _, by first | exact grown_of (below_drewN hb _) | exact grown_of (below_drewN (below_drewN hb _) _)⟩

set_option maxHeartbeats 1000000 in
theorem takes_release (s : St) (t o : Nat) (b : Nat) (w : World) (h : Has w b (stC s) 134) (hE : isEv ⟨4, t, o⟩ = true) (ht : t < 6) (x1 : s.begun t = true) (x2 : s.over t = false) (ho5 : o < 5) (x3 : s.owner o = t + 1) :
    Calls Tryd.prog 53 #[.pointer (some ⟨b, 0, none⟩), evV ⟨4, t, o⟩] w fun r w' => r = .returned (.int .i64 0) ∧ Took w w' b { s with owner := updI s.owner o 0 } := by
  have h1 := h.alloc (.cells (evC ⟨4, t, o⟩) 30)
  have h0 := Has.new w (evC ⟨4, t, o⟩) 30
  have hb : Below w.heap.size w (w.alloc (.cells (evC ⟨4, t, o⟩) 30)) := (Below.refl _ _).alloc (by simp) _
  have hlt := h.lt
  go_enter Tryd.func53, Tryd.ntmps53
  go_wp2_with fail
  generalize w.alloc (.cells (evC ⟨4, t, o⟩) 30) = w1 at *
  refine (isEvent_any ⟨4, t, o⟩ _).mono ?_
  rintro r w2 ⟨rfl, hk⟩
  rw [hE]
  replace h1 := h1.below hk h1.lt
  replace h0 := h0.below hk h0.lt
  replace hb := hb.trans (hk.mono hb.size)
  have hne : b ≠ w.heap.size := by omega
  clear hk hE
  have f1 : w2.cell? ⟨w.heap.size, 1, none⟩ = some (.int .i64 (t : Int)) := h0.cell rfl
  have f2 : w2.cell? ⟨w.heap.size, 2, none⟩ = some (.int .i64 (o : Int)) := h0.cell rfl
  have f0 : w2.cell? ⟨w.heap.size, 0, none⟩ = some (.int .i64 4) := h0.cell rfl
  have hb1 : w2.cell? ⟨b, t, none⟩ = some (.bool (s.begun t)) := h1.cell (stC_begun s t ht)
  have i0 : (0 : Int) ≤ t := by omega
  have i6 : (t : Int) < 6 := by omega
  have j0 : (0 : Int) ≤ o := by omega
  have j5 : (o : Int) < 5 := by omega
  have ho : w2.cell? ⟨b, 12 + o, none⟩ = some (.int .i64 (s.owner o)) := h1.cell (stC_owner s o ho5)
  have fo := h1.free (12 + o)
  rw [x3] at ho
  have hwr := IntWalk.i64_in ((t : Int) + 1) (by omega)
  have hb2 : w2.cell? ⟨b, 6 + t, none⟩ = some (.bool (s.over t)) := h1.cell (stC_over s t ht)
  rw [x1] at hb1
  rw [x2] at hb2
  go_wp2
  go_quiet (fail)
  go_wp2
  go_quiet (fail)
  go_wp2
  go_region
  all_goals
    go_wp2
    go_ret
    refine ⟨rfl, ?_, ?_⟩
    · first | exact ((((h1.drewN _).drewN _).drew).setCell _ _).to (stC_setOwner s o ho5 _) | exact (((h1.drewN _).drew).setCell _ _).to (stC_setOwner s o ho5 _) | exact ((((h1.drewN _).drewN _).setCell _ _)).drew.to (stC_setOwner s o ho5 _)
    · first | exact grown_set (grown_of ((below_drewN (below_drewN hb _) _).drew)) rfl _ | exact grown_set (grown_of (below_drewN hb _).drew) rfl _ | exact (grown_set (grown_of (below_drewN (below_drewN hb _) _)) rfl _).drewG

set_option maxHeartbeats 1000000 in
theorem takes_twice (s : St) (t o : Nat) (b : Nat) (w : World) (h : Has w b (stC s) 134) (hE : isEv ⟨5, t, o⟩ = true) (ht : t < 6) (x1 : s.begun t = true) (x2 : s.over t = false) (ho6 : o < 6) (x3 : s.begun o = true) :
    Calls Tryd.prog 53 #[.pointer (some ⟨b, 0, none⟩), evV ⟨5, t, o⟩] w fun r w' => r = .returned (.int .i64 8) ∧ Took w w' b s := by
  have h1 := h.alloc (.cells (evC ⟨5, t, o⟩) 30)
  have h0 := Has.new w (evC ⟨5, t, o⟩) 30
  have hb : Below w.heap.size w (w.alloc (.cells (evC ⟨5, t, o⟩) 30)) := (Below.refl _ _).alloc (by simp) _
  have hlt := h.lt
  go_enter Tryd.func53, Tryd.ntmps53
  go_wp2_with fail
  generalize w.alloc (.cells (evC ⟨5, t, o⟩) 30) = w1 at *
  refine (isEvent_any ⟨5, t, o⟩ _).mono ?_
  rintro r w2 ⟨rfl, hk⟩
  rw [hE]
  replace h1 := h1.below hk h1.lt
  replace h0 := h0.below hk h0.lt
  replace hb := hb.trans (hk.mono hb.size)
  have hne : b ≠ w.heap.size := by omega
  clear hk hE
  have f1 : w2.cell? ⟨w.heap.size, 1, none⟩ = some (.int .i64 (t : Int)) := h0.cell rfl
  have f2 : w2.cell? ⟨w.heap.size, 2, none⟩ = some (.int .i64 (o : Int)) := h0.cell rfl
  have f0 : w2.cell? ⟨w.heap.size, 0, none⟩ = some (.int .i64 5) := h0.cell rfl
  have hb1 : w2.cell? ⟨b, t, none⟩ = some (.bool (s.begun t)) := h1.cell (stC_begun s t ht)
  have i0 : (0 : Int) ≤ t := by omega
  have i6 : (t : Int) < 6 := by omega
  have j0 : (0 : Int) ≤ o := by omega
  have j6 : (o : Int) < 6 := by omega
  have ho : w2.cell? ⟨b, o, none⟩ = some (.bool (s.begun o)) := h1.cell (stC_begun s o ho6)
  have fo := h1.free o
  rw [x3] at ho
  have hb2 : w2.cell? ⟨b, 6 + t, none⟩ = some (.bool (s.over t)) := h1.cell (stC_over s t ht)
  rw [x1] at hb1
  rw [x2] at hb2
  go_wp2
  go_quiet (fail)
  go_wp2
  go_quiet (fail)
  go_wp2
  go_ret
  exact ⟨rfl, by first | exact h1.drewN _ | exact (h1.drewN _).drewN _, by first | exact grown_of (below_drewN hb _) | exact grown_of (below_drewN (below_drewN hb _) _)⟩

set_option maxHeartbeats 1000000 in
theorem takes_fork (s : St) (t o : Nat) (b : Nat) (w : World) (h : Has w b (stC s) 134) (hE : isEv ⟨5, t, o⟩ = true) (ht : t < 6) (x1 : s.begun t = true) (x2 : s.over t = false) (ho6 : o < 6) (x3 : s.begun o = false) :
    Calls Tryd.prog 53 #[.pointer (some ⟨b, 0, none⟩), evV ⟨5, t, o⟩] w fun r w' => r = .returned (.int .i64 0) ∧ Took w w' b { s with begun := updB s.begun o } := by
  have h1 := h.alloc (.cells (evC ⟨5, t, o⟩) 30)
  have h0 := Has.new w (evC ⟨5, t, o⟩) 30
  have hb : Below w.heap.size w (w.alloc (.cells (evC ⟨5, t, o⟩) 30)) := (Below.refl _ _).alloc (by simp) _
  have hlt := h.lt
  go_enter Tryd.func53, Tryd.ntmps53
  go_wp2_with fail
  generalize w.alloc (.cells (evC ⟨5, t, o⟩) 30) = w1 at *
  refine (isEvent_any ⟨5, t, o⟩ _).mono ?_
  rintro r w2 ⟨rfl, hk⟩
  rw [hE]
  replace h1 := h1.below hk h1.lt
  replace h0 := h0.below hk h0.lt
  replace hb := hb.trans (hk.mono hb.size)
  have hne : b ≠ w.heap.size := by omega
  clear hk hE
  have f1 : w2.cell? ⟨w.heap.size, 1, none⟩ = some (.int .i64 (t : Int)) := h0.cell rfl
  have f2 : w2.cell? ⟨w.heap.size, 2, none⟩ = some (.int .i64 (o : Int)) := h0.cell rfl
  have f0 : w2.cell? ⟨w.heap.size, 0, none⟩ = some (.int .i64 5) := h0.cell rfl
  have hb1 : w2.cell? ⟨b, t, none⟩ = some (.bool (s.begun t)) := h1.cell (stC_begun s t ht)
  have i0 : (0 : Int) ≤ t := by omega
  have i6 : (t : Int) < 6 := by omega
  have j0 : (0 : Int) ≤ o := by omega
  have j6 : (o : Int) < 6 := by omega
  have ho : w2.cell? ⟨b, o, none⟩ = some (.bool (s.begun o)) := h1.cell (stC_begun s o ho6)
  have fo := h1.free o
  rw [x3] at ho
  have hb2 : w2.cell? ⟨b, 6 + t, none⟩ = some (.bool (s.over t)) := h1.cell (stC_over s t ht)
  rw [x1] at hb1
  rw [x2] at hb2
  go_wp2
  go_quiet (fail)
  go_wp2
  go_quiet (fail)
  go_wp2
  go_region
  all_goals
    go_wp2
    go_ret
    refine ⟨rfl, ?_, ?_⟩
    · first | exact ((((h1.drewN _).drewN _).drew).setCell _ _).to (stC_setBegun s o ho6) | exact (((h1.drewN _).drew).setCell _ _).to (stC_setBegun s o ho6) | exact ((((h1.drewN _).drewN _).setCell _ _)).drew.to (stC_setBegun s o ho6)
    · first | exact grown_set (grown_of ((below_drewN (below_drewN hb _) _).drew)) rfl _ | exact grown_set (grown_of (below_drewN hb _).drew) rfl _ | exact (grown_set (grown_of (below_drewN (below_drewN hb _) _)) rfl _).drewG

set_option maxHeartbeats 1000000 in
theorem takes_none (s : St) (t o : Nat) (b : Nat) (w : World) (h : Has w b (stC s) 134) (hE : isEv ⟨6, t, o⟩ = true) (ht : t < 6) (x1 : s.begun t = true) (x2 : s.over t = false) (ho6 : o < 6) (x3 : s.begun o = false) :
    Calls Tryd.prog 53 #[.pointer (some ⟨b, 0, none⟩), evV ⟨6, t, o⟩] w fun r w' => r = .returned (.int .i64 7) ∧ Took w w' b s := by
  have h1 := h.alloc (.cells (evC ⟨6, t, o⟩) 30)
  have h0 := Has.new w (evC ⟨6, t, o⟩) 30
  have hb : Below w.heap.size w (w.alloc (.cells (evC ⟨6, t, o⟩) 30)) := (Below.refl _ _).alloc (by simp) _
  have hlt := h.lt
  go_enter Tryd.func53, Tryd.ntmps53
  go_wp2_with fail
  generalize w.alloc (.cells (evC ⟨6, t, o⟩) 30) = w1 at *
  refine (isEvent_any ⟨6, t, o⟩ _).mono ?_
  rintro r w2 ⟨rfl, hk⟩
  rw [hE]
  replace h1 := h1.below hk h1.lt
  replace h0 := h0.below hk h0.lt
  replace hb := hb.trans (hk.mono hb.size)
  have hne : b ≠ w.heap.size := by omega
  clear hk hE
  have f1 : w2.cell? ⟨w.heap.size, 1, none⟩ = some (.int .i64 (t : Int)) := h0.cell rfl
  have f2 : w2.cell? ⟨w.heap.size, 2, none⟩ = some (.int .i64 (o : Int)) := h0.cell rfl
  have f0 : w2.cell? ⟨w.heap.size, 0, none⟩ = some (.int .i64 6) := h0.cell rfl
  have hb1 : w2.cell? ⟨b, t, none⟩ = some (.bool (s.begun t)) := h1.cell (stC_begun s t ht)
  have i0 : (0 : Int) ≤ t := by omega
  have i6 : (t : Int) < 6 := by omega
  have j0 : (0 : Int) ≤ o := by omega
  have j6 : (o : Int) < 6 := by omega
  have ho : w2.cell? ⟨b, o, none⟩ = some (.bool (s.begun o)) := h1.cell (stC_begun s o ho6)
  have fo := h1.free o
  rw [x3] at ho
  have hb2 : w2.cell? ⟨b, 6 + t, none⟩ = some (.bool (s.over t)) := h1.cell (stC_over s t ht)
  rw [x1] at hb1
  rw [x2] at hb2
  go_wp2
  go_quiet (fail)
  go_wp2
  go_quiet (fail)
  go_wp2
  go_ret
  exact ⟨rfl, by first | exact h1.drewN _ | exact (h1.drewN _).drewN _, by first | exact grown_of (below_drewN hb _) | exact grown_of (below_drewN (below_drewN hb _) _)⟩

set_option maxHeartbeats 1000000 in
theorem takes_self (s : St) (t : Nat) (b : Nat) (w : World) (h : Has w b (stC s) 134) (hE : isEv ⟨6, t, t⟩ = true) (ht : t < 6) (x1 : s.begun t = true) (x2 : s.over t = false) :
    Calls Tryd.prog 53 #[.pointer (some ⟨b, 0, none⟩), evV ⟨6, t, t⟩] w fun r w' => r = .returned (.int .i64 7) ∧ Took w w' b s := by
  have h1 := h.alloc (.cells (evC ⟨6, t, t⟩) 30)
  have h0 := Has.new w (evC ⟨6, t, t⟩) 30
  have hb : Below w.heap.size w (w.alloc (.cells (evC ⟨6, t, t⟩) 30)) := (Below.refl _ _).alloc (by simp) _
  have hlt := h.lt
  go_enter Tryd.func53, Tryd.ntmps53
  go_wp2_with fail
  generalize w.alloc (.cells (evC ⟨6, t, t⟩) 30) = w1 at *
  refine (isEvent_any ⟨6, t, t⟩ _).mono ?_
  rintro r w2 ⟨rfl, hk⟩
  rw [hE]
  replace h1 := h1.below hk h1.lt
  replace h0 := h0.below hk h0.lt
  replace hb := hb.trans (hk.mono hb.size)
  have hne : b ≠ w.heap.size := by omega
  clear hk hE
  have f1 : w2.cell? ⟨w.heap.size, 1, none⟩ = some (.int .i64 (t : Int)) := h0.cell rfl
  have f2 : w2.cell? ⟨w.heap.size, 2, none⟩ = some (.int .i64 (t : Int)) := h0.cell rfl
  have f0 : w2.cell? ⟨w.heap.size, 0, none⟩ = some (.int .i64 6) := h0.cell rfl
  have hb1 : w2.cell? ⟨b, t, none⟩ = some (.bool (s.begun t)) := h1.cell (stC_begun s t ht)
  have i0 : (0 : Int) ≤ t := by omega
  have i6 : (t : Int) < 6 := by omega
  have y : ((t : Int) == (t : Int)) = true := by simp
  have hb2 : w2.cell? ⟨b, 6 + t, none⟩ = some (.bool (s.over t)) := h1.cell (stC_over s t ht)
  rw [x1] at hb1
  rw [x2] at hb2
  go_wp2
  go_quiet (fail)
  go_wp2
  go_quiet (fail)
  go_wp2
  go_ret
  exact ⟨rfl, by first | exact h1.drewN _ | exact (h1.drewN _).drewN _, by first | exact grown_of (below_drewN hb _) | exact grown_of (below_drewN (below_drewN hb _) _)⟩

set_option maxHeartbeats 1000000 in
theorem takes_join (s : St) (t o : Nat) (b : Nat) (w : World) (h : Has w b (stC s) 134) (hE : isEv ⟨6, t, o⟩ = true) (ht : t < 6) (x1 : s.begun t = true) (x2 : s.over t = false) (ho6 : o < 6) (x3 : s.begun o = true) (x4 : o ≠ t) :
    Calls Tryd.prog 53 #[.pointer (some ⟨b, 0, none⟩), evV ⟨6, t, o⟩] w fun r w' => r = .returned (.int .i64 0) ∧ Took w w' b { s with over := updB s.over o } := by
  have h1 := h.alloc (.cells (evC ⟨6, t, o⟩) 30)
  have h0 := Has.new w (evC ⟨6, t, o⟩) 30
  have hb : Below w.heap.size w (w.alloc (.cells (evC ⟨6, t, o⟩) 30)) := (Below.refl _ _).alloc (by simp) _
  have hlt := h.lt
  go_enter Tryd.func53, Tryd.ntmps53
  go_wp2_with fail
  generalize w.alloc (.cells (evC ⟨6, t, o⟩) 30) = w1 at *
  refine (isEvent_any ⟨6, t, o⟩ _).mono ?_
  rintro r w2 ⟨rfl, hk⟩
  rw [hE]
  replace h1 := h1.below hk h1.lt
  replace h0 := h0.below hk h0.lt
  replace hb := hb.trans (hk.mono hb.size)
  have hne : b ≠ w.heap.size := by omega
  clear hk hE
  have f1 : w2.cell? ⟨w.heap.size, 1, none⟩ = some (.int .i64 (t : Int)) := h0.cell rfl
  have f2 : w2.cell? ⟨w.heap.size, 2, none⟩ = some (.int .i64 (o : Int)) := h0.cell rfl
  have f0 : w2.cell? ⟨w.heap.size, 0, none⟩ = some (.int .i64 6) := h0.cell rfl
  have hb1 : w2.cell? ⟨b, t, none⟩ = some (.bool (s.begun t)) := h1.cell (stC_begun s t ht)
  have i0 : (0 : Int) ≤ t := by omega
  have i6 : (t : Int) < 6 := by omega
  have j0 : (0 : Int) ≤ o := by omega
  have j6 : (o : Int) < 6 := by omega
  have ho : w2.cell? ⟨b, o, none⟩ = some (.bool (s.begun o)) := h1.cell (stC_begun s o ho6)
  have fo := h1.free o
  rw [x3] at ho
  have y : ((o : Int) == (t : Int)) = false := by simp; omega
  have fo2 := h1.free (6 + o)
  have hq : w2.cell? ⟨b, 6 + o, none⟩ = some (.bool (s.over o)) := h1.cell (stC_over s o ho6)
  have hb2 : w2.cell? ⟨b, 6 + t, none⟩ = some (.bool (s.over t)) := h1.cell (stC_over s t ht)
  rw [x1] at hb1
  rw [x2] at hb2
  go_wp2
  go_quiet (fail)
  go_wp2
  go_quiet (fail)
  go_wp2
  go_region
  all_goals
    go_wp2
    go_ret
    refine ⟨rfl, ?_, ?_⟩
    · first | exact ((((h1.drewN _).drewN _).drew).setCell _ _).to (stC_setOver s o ho6) | exact (((h1.drewN _).drew).setCell _ _).to (stC_setOver s o ho6) | exact ((((h1.drewN _).drewN _).setCell _ _)).drew.to (stC_setOver s o ho6)
    · first | exact grown_set (grown_of ((below_drewN (below_drewN hb _) _).drew)) rfl _ | exact grown_set (grown_of (below_drewN hb _).drew) rfl _ | exact (grown_set (grown_of (below_drewN (below_drewN hb _) _)) rfl _).drewG

end Go.Proofs.YtmeidjhojanogaaDoor
