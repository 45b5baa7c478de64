/- Joined texts. -/
import Derived.Test.YtmeidjhojanogaaDoorMS
import Derived.IntWalk

/- Contracts of package trace: takes, case by case. -/
namespace Go.Proofs.YtmeidjhojanogaaDoor
open Go.RowKit

/-- What a call of takes leaves: the block b holds the world, all else that was there is as it was. -/
structure Took (w w' : World) (b : Nat) (s : St) : Prop where
  has : Has w' b (stC s) 134
  grown : w.grownBy w' (some b)
theorem grown_of {w w' : World} {b : Nat} (h : Below w.heap.size w w') : w.grownBy w' (some b) := ⟨h.os, h.tape, h.output, h.size, fun k hk _ => h.block k hk⟩
theorem grown_set {w w' : World} {b : Nat} {a : Addr} (h : w.grownBy w' (some b)) (ha : a.block = b) (v : Value) : w.grownBy (w'.setCell a v) (some b) :=
  ⟨h.os, h.tape, h.output, by simpa [World.setCell] using h.size, fun k hk hne => (Below.heap_setCell _ _ _ _ (by rintro rfl; exact hne (by rw [ha]))).trans (h.block k hk hne)⟩
theorem _root_.Go.World.grownBy.drewG {w w' : World} {row : Option Nat} (h : w.grownBy w' row) : w.grownBy w'.drew row := ⟨h.os, h.tape, h.output, h.size, h.block⟩
theorem ev_eta {e : Ev} {k t o : Int} (h1 : e.k = k) (h2 : e.t = t) (h3 : e.o = o) : e = ⟨k, t, o⟩ := by cases e; simp_all

set_option maxHeartbeats 400000 in
theorem takes_bad (s : St) (e : Ev) (b : Nat) (w : World) (h : Has w b (stC s) 134) (hE : isEv e = false) :
    Calls Tryd.prog 53 #[.pointer (some ⟨b, 0, none⟩), evV e] w fun r w' => r = .returned (.int .i64 1) ∧ Took w w' b s := by
  have h1 := h.alloc (.cells (evC e) 30)
  have h0 := Has.new w (evC e) 30
  have hb : Below w.heap.size w (w.alloc (.cells (evC e) 30)) := (Below.refl _ _).alloc (by simp) _
  have hlt := h.lt
  go_enter Tryd.func53, Tryd.ntmps53
  go_wp2_with fail
  generalize w.alloc (.cells (evC e) 30) = w1 at *
  refine (isEvent_any e _).mono ?_
  rintro r w2 ⟨rfl, hk⟩
  rw [hE]
  replace h1 := h1.below hk h1.lt
  replace h0 := h0.below hk h0.lt
  replace hb := hb.trans (hk.mono hb.size)
  have hne : b ≠ w.heap.size := by omega
  clear hk hE
  go_wp2
  go_ret
  exact ⟨rfl, h1, grown_of hb⟩

set_option maxHeartbeats 1000000 in
theorem takes_unbegun (s : St) (K : Int) (t o : Nat) (b : Nat) (w : World) (h : Has w b (stC s) 134) (hE : isEv ⟨K, t, o⟩ = true) (ht : t < 6) (x1 : s.begun t = false) :
    Calls Tryd.prog 53 #[.pointer (some ⟨b, 0, none⟩), evV ⟨K, t, o⟩] w fun r w' => r = .returned (.int .i64 11) ∧ Took w w' b s := by
  have h1 := h.alloc (.cells (evC ⟨K, t, o⟩) 30)
  have h0 := Has.new w (evC ⟨K, t, o⟩) 30
  have hb : Below w.heap.size w (w.alloc (.cells (evC ⟨K, t, o⟩) 30)) := (Below.refl _ _).alloc (by simp) _
  have hlt := h.lt
  go_enter Tryd.func53, Tryd.ntmps53
  go_wp2_with fail
  generalize w.alloc (.cells (evC ⟨K, t, o⟩) 30) = w1 at *
  refine (isEvent_any ⟨K, t, o⟩ _).mono ?_
  rintro r w2 ⟨rfl, hk⟩
  rw [hE]
  replace h1 := h1.below hk h1.lt
  replace h0 := h0.below hk h0.lt
  replace hb := hb.trans (hk.mono hb.size)
  have hne : b ≠ w.heap.size := by omega
  clear hk hE
  have f1 : w2.cell? ⟨w.heap.size, 1, none⟩ = some (.int .i64 (t : Int)) := h0.cell rfl
  have f2 : w2.cell? ⟨w.heap.size, 2, none⟩ = some (.int .i64 (o : Int)) := h0.cell rfl
  have f0 : w2.cell? ⟨w.heap.size, 0, none⟩ = some (.int .i64 K) := h0.cell rfl
  have hb1 : w2.cell? ⟨b, t, none⟩ = some (.bool (s.begun t)) := h1.cell (stC_begun s t ht)
  have i0 : (0 : Int) ≤ t := by omega
  have i6 : (t : Int) < 6 := by omega
  rw [x1] at hb1
  go_wp2
  go_quiet (fail)
  go_wp2
  go_ret
  exact ⟨rfl, by first | exact h1.drewN _ | exact (h1.drewN _).drewN _, by first | exact grown_of (below_drewN hb _) | exact grown_of (below_drewN (below_drewN hb _) _)⟩

set_option maxHeartbeats 1000000 in
theorem takes_over (s : St) (K : Int) (t o : Nat) (b : Nat) (w : World) (h : Has w b (stC s) 134) (hE : isEv ⟨K, t, o⟩ = true) (ht : t < 6) (x1 : s.begun t = true) (x2 : s.over t = true) :
    Calls Tryd.prog 53 #[.pointer (some ⟨b, 0, none⟩), evV ⟨K, t, o⟩] w fun r w' => r = .returned (.int .i64 11) ∧ Took w w' b s := by
  have h1 := h.alloc (.cells (evC ⟨K, t, o⟩) 30)
  have h0 := Has.new w (evC ⟨K, t, o⟩) 30
  have hb : Below w.heap.size w (w.alloc (.cells (evC ⟨K, t, o⟩) 30)) := (Below.refl _ _).alloc (by simp) _
  have hlt := h.lt
  go_enter Tryd.func53, Tryd.ntmps53
  go_wp2_with fail
  generalize w.alloc (.cells (evC ⟨K, t, o⟩) 30) = w1 at *
  refine (isEvent_any ⟨K, t, o⟩ _).mono ?_
  rintro r w2 ⟨rfl, hk⟩
  rw [hE]
  replace h1 := h1.below hk h1.lt
  replace h0 := h0.below hk h0.lt
  replace hb := hb.trans (hk.mono hb.size)
  have hne : b ≠ w.heap.size := by omega
  clear hk hE
  have f1 : w2.cell? ⟨w.heap.size, 1, none⟩ = some (.int .i64 (t : Int)) := h0.cell rfl
  have f2 : w2.cell? ⟨w.heap.size, 2, none⟩ = some (.int .i64 (o : Int)) := h0.cell rfl
  have f0 : w2.cell? ⟨w.heap.size, 0, none⟩ = some (.int .i64 K) := h0.cell rfl
  have hb1 : w2.cell? ⟨b, t, none⟩ = some (.bool (s.begun t)) := h1.cell (stC_begun s t ht)
  have i0 : (0 : Int) ≤ t := by omega
  have i6 : (t : Int) < 6 := by omega
  have hb2 : w2.cell? ⟨b, 6 + t, none⟩ = some (.bool (s.over t)) := h1.cell (stC_over s t ht)
  rw [x1] at hb1
  rw [x2] at hb2
  go_wp2
  go_quiet (fail)
  go_wp2
  go_ret
  exact ⟨rfl, by first | exact h1.drewN _ | exact (h1.drewN _).drewN _, by first | exact grown_of (below_drewN hb _) | exact grown_of (below_drewN (below_drewN hb _) _)⟩

set_option maxHeartbeats 1000000 in
theorem takes_plain1 (s : St) (t o : Nat) (b : Nat) (w : World) (h : Has w b (stC s) 134) (hE : isEv ⟨1, t, o⟩ = true) (ht : t < 6) (x1 : s.begun t = true) (x2 : s.over t = false) :
    Calls Tryd.prog 53 #[.pointer (some ⟨b, 0, none⟩), evV ⟨1, t, o⟩] w fun r w' => r = .returned (.int .i64 0) ∧ Took w w' b s := by
  have h1 := h.alloc (.cells (evC ⟨1, t, o⟩) 30)
  have h0 := Has.new w (evC ⟨1, t, o⟩) 30
  have hb : Below w.heap.size w (w.alloc (.cells (evC ⟨1, t, o⟩) 30)) := (Below.refl _ _).alloc (by simp) _
  have hlt := h.lt
  go_enter Tryd.func53, Tryd.ntmps53
  go_wp2_with fail
  generalize w.alloc (.cells (evC ⟨1, t, o⟩) 30) = w1 at *
  refine (isEvent_any ⟨1, t, o⟩ _).mono ?_
  rintro r w2 ⟨rfl, hk⟩
  rw [hE]
  replace h1 := h1.below hk h1.lt
  replace h0 := h0.below hk h0.lt
  replace hb := hb.trans (hk.mono hb.size)
  have hne : b ≠ w.heap.size := by omega
  clear hk hE
  have f1 : w2.cell? ⟨w.heap.size, 1, none⟩ = some (.int .i64 (t : Int)) := h0.cell rfl
  have f2 : w2.cell? ⟨w.heap.size, 2, none⟩ = some (.int .i64 (o : Int)) := h0.cell rfl
  have f0 : w2.cell? ⟨w.heap.size, 0, none⟩ = some (.int .i64 1) := h0.cell rfl
  have hb1 : w2.cell? ⟨b, t, none⟩ = some (.bool (s.begun t)) := h1.cell (stC_begun s t ht)
  have i0 : (0 : Int) ≤ t := by omega
  have i6 : (t : Int) < 6 := by omega
  have hb2 : w2.cell? ⟨b, 6 + t, none⟩ = some (.bool (s.over t)) := h1.cell (stC_over s t ht)
  rw [x1] at hb1
  rw [x2] at hb2
  go_wp2
  go_quiet (fail)
  go_wp2
  go_ret
  exact ⟨rfl, by first | exact h1.drewN _ | exact (h1.drewN _).drewN _, by first | exact grown_of (below_drewN hb _) | exact grown_of (below_drewN (below_drewN hb _) _)⟩

set_option maxHeartbeats 1000000 in
theorem takes_plain2 (s : St) (t o : Nat) (b : Nat) (w : World) (h : Has w b (stC s) 134) (hE : isEv ⟨2, t, o⟩ = true) (ht : t < 6) (x1 : s.begun t = true) (x2 : s.over t = false) :
    Calls Tryd.prog 53 #[.pointer (some ⟨b, 0, none⟩), evV ⟨2, t, o⟩] w fun r w' => r = .returned (.int .i64 0) ∧ Took w w' b s := by
  have h1 := h.alloc (.cells (evC ⟨2, t, o⟩) 30)
  have h0 := Has.new w (evC ⟨2, t, o⟩) 30
  have hb : Below w.heap.size w (w.alloc (.cells (evC ⟨2, t, o⟩) 30)) := (Below.refl _ _).alloc (by simp) _
  have hlt := h.lt
  go_enter Tryd.func53, Tryd.ntmps53
  go_wp2_with fail
  generalize w.alloc (.cells (evC ⟨2, t, o⟩) 30) = w1 at *
  refine (isEvent_any ⟨2, t, o⟩ _).mono ?_
  rintro r w2 ⟨rfl, hk⟩
  rw [hE]
  replace h1 := h1.below hk h1.lt
  replace h0 := h0.below hk h0.lt
  replace hb := hb.trans (hk.mono hb.size)
  have hne : b ≠ w.heap.size := by omega
  clear hk hE
  have f1 : w2.cell? ⟨w.heap.size, 1, none⟩ = some (.int .i64 (t : Int)) := h0.cell rfl
  have f2 : w2.cell? ⟨w.heap.size, 2, none⟩ = some (.int .i64 (o : Int)) := h0.cell rfl
  have f0 : w2.cell? ⟨w.heap.size, 0, none⟩ = some (.int .i64 2) := h0.cell rfl
  have hb1 : w2.cell? ⟨b, t, none⟩ = some (.bool (s.begun t)) := h1.cell (stC_begun s t ht)
  have i0 : (0 : Int) ≤ t := by omega
  have i6 : (t : Int) < 6 := by omega
  have hb2 : w2.cell? ⟨b, 6 + t, none⟩ = some (.bool (s.over t)) := h1.cell (stC_over s t ht)
  rw [x1] at hb1
  rw [x2] at hb2
  go_wp2
  go_quiet (fail)
  go_wp2
  go_ret
  exact ⟨rfl, by first | exact h1.drewN _ | exact (h1.drewN _).drewN _, by first | exact grown_of (below_drewN hb _) | exact grown_of (below_drewN (below_drewN hb _) _)⟩

set_option maxHeartbeats 1000000 in
theorem takes_plain7 (s : St) (t o : Nat) (b : Nat) (w : World) (h : Has w b (stC s) 134) (hE : isEv ⟨7, t, o⟩ = true) (ht : t < 6) (x1 : s.begun t = true) (x2 : s.over t = false) :
    Calls Tryd.prog 53 #[.pointer (some ⟨b, 0, none⟩), evV ⟨7, t, o⟩] w fun r w' => r = .returned (.int .i64 0) ∧ Took w w' b s := by
  have h1 := h.alloc (.cells (evC ⟨7, t, o⟩) 30)
  have h0 := Has.new w (evC ⟨7, t, o⟩) 30
  have hb : Below w.heap.size w (w.alloc (.cells (evC ⟨7, t, o⟩) 30)) := (Below.refl _ _).alloc (by simp) _
  have hlt := h.lt
  go_enter Tryd.func53, Tryd.ntmps53
  go_wp2_with fail
  generalize w.alloc (.cells (evC ⟨7, t, o⟩) 30) = w1 at *
  refine (isEvent_any ⟨7, t, o⟩ _).mono ?_
  rintro r w2 ⟨rfl, hk⟩
  rw [hE]
  replace h1 := h1.below hk h1.lt
  replace h0 := h0.below hk h0.lt
  replace hb := hb.trans (hk.mono hb.size)
  have hne : b ≠ w.heap.size := by omega
  clear hk hE
  have f1 : w2.cell? ⟨w.heap.size, 1, none⟩ = some (.int .i64 (t : Int)) := h0.cell rfl
  have f2 : w2.cell? ⟨w.heap.size, 2, none⟩ = some (.int .i64 (o : Int)) := h0.cell rfl
  have f0 : w2.cell? ⟨w.heap.size, 0, none⟩ = some (.int .i64 7) := h0.cell rfl
  have hb1 : w2.cell? ⟨b, t, none⟩ = some (.bool (s.begun t)) := h1.cell (stC_begun s t ht)
  have i0 : (0 : Int) ≤ t := by omega
  have i6 : (t : Int) < 6 := by omega
  have hb2 : w2.cell? ⟨b, 6 + t, none⟩ = some (.bool (s.over t)) := h1.cell (stC_over s t ht)
  rw [x1] at hb1
  rw [x2] at hb2
  go_wp2
  go_quiet (fail)
  go_wp2
  go_ret
  exact ⟨rfl, by first | exact h1.drewN _ | exact (h1.drewN _).drewN _, by first | exact grown_of (below_drewN hb _) | exact grown_of (below_drewN (below_drewN hb _) _)⟩

set_option maxHeartbeats 1000000 in
theorem takes_plain8 (s : St) (t o : Nat) (b : Nat) (w : World) (h : Has w b (stC s) 134) (hE : isEv ⟨8, t, o⟩ = true) (ht : t < 6) (x1 : s.begun t = true) (x2 : s.over t = false) :
    Calls Tryd.prog 53 #[.pointer (some ⟨b, 0, none⟩), evV ⟨8, t, o⟩] w fun r w' => r = .returned (.int .i64 0) ∧ Took w w' b s := by
  have h1 := h.alloc (.cells (evC ⟨8, t, o⟩) 30)
  have h0 := Has.new w (evC ⟨8, t, o⟩) 30
  have hb : Below w.heap.size w (w.alloc (.cells (evC ⟨8, t, o⟩) 30)) := (Below.refl _ _).alloc (by simp) _
  have hlt := h.lt
  go_enter Tryd.func53, Tryd.ntmps53
  go_wp2_with fail
  generalize w.alloc (.cells (evC ⟨8, t, o⟩) 30) = w1 at *
  refine (isEvent_any ⟨8, t, o⟩ _).mono ?_
  rintro r w2 ⟨rfl, hk⟩
  rw [hE]
  replace h1 := h1.below hk h1.lt
  replace h0 := h0.below hk h0.lt
  replace hb := hb.trans (hk.mono hb.size)
  have hne : b ≠ w.heap.size := by omega
  clear hk hE
  have f1 : w2.cell? ⟨w.heap.size, 1, none⟩ = some (.int .i64 (t : Int)) := h0.cell rfl
  have f2 : w2.cell? ⟨w.heap.size, 2, none⟩ = some (.int .i64 (o : Int)) := h0.cell rfl
  have f0 : w2.cell? ⟨w.heap.size, 0, none⟩ = some (.int .i64 8) := h0.cell rfl
  have hb1 : w2.cell? ⟨b, t, none⟩ = some (.bool (s.begun t)) := h1.cell (stC_begun s t ht)
  have i0 : (0 : Int) ≤ t := by omega
  have i6 : (t : Int) < 6 := by omega
  have hb2 : w2.cell? ⟨b, 6 + t, none⟩ = some (.bool (s.over t)) := h1.cell (stC_over s t ht)
  rw [x1] at hb1
  rw [x2] at hb2
  go_wp2
  go_quiet (fail)
  go_wp2
  go_ret
  exact ⟨rfl, by first | exact h1.drewN _ | exact (h1.drewN _).drewN _, by first | exact grown_of (below_drewN hb _) | exact grown_of (below_drewN (below_drewN hb _) _)⟩

set_option maxHeartbeats 1000000 in
theorem takes_held (s : St) (t o : Nat) (b : Nat) (w : World) (h : Has w b (stC s) 134) (hE : isEv ⟨3, t, o⟩ = true) (ht : t < 6) (x1 : s.begun t = true) (x2 : s.over t = false) (ho5 : o < 5) (x3 : s.owner o ≠ 0) :
    Calls Tryd.prog 53 #[.pointer (some ⟨b, 0, none⟩), evV ⟨3, t, o⟩] w fun r w' => r = .returned (.int .i64 9) ∧ Took w w' b s := by
  have h1 := h.alloc (.cells (evC ⟨3, t, o⟩) 30)
  have h0 := Has.new w (evC ⟨3, t, o⟩) 30
  have hb : Below w.heap.size w (w.alloc (.cells (evC ⟨3, t, o⟩) 30)) := (Below.refl _ _).alloc (by simp) _
  have hlt := h.lt
  go_enter Tryd.func53, Tryd.ntmps53
  go_wp2_with fail
  generalize w.alloc (.cells (evC ⟨3, t, o⟩) 30) = w1 at *
  refine (isEvent_any ⟨3, t, o⟩ _).mono ?_
  rintro r w2 ⟨rfl, hk⟩
  rw [hE]
  replace h1 := h1.below hk h1.lt
  replace h0 := h0.below hk h0.lt
  replace hb := hb.trans (hk.mono hb.size)
  have hne : b ≠ w.heap.size := by omega
  clear hk hE
  have f1 : w2.cell? ⟨w.heap.size, 1, none⟩ = some (.int .i64 (t : Int)) := h0.cell rfl
  have f2 : w2.cell? ⟨w.heap.size, 2, none⟩ = some (.int .i64 (o : Int)) := h0.cell rfl
  have f0 : w2.cell? ⟨w.heap.size, 0, none⟩ = some (.int .i64 3) := h0.cell rfl
  have hb1 : w2.cell? ⟨b, t, none⟩ = some (.bool (s.begun t)) := h1.cell (stC_begun s t ht)
  have i0 : (0 : Int) ≤ t := by omega
  have i6 : (t : Int) < 6 := by omega
  have j0 : (0 : Int) ≤ o := by omega
  have j5 : (o : Int) < 5 := by omega
  have ho : w2.cell? ⟨b, 12 + o, none⟩ = some (.int .i64 (s.owner o)) := h1.cell (stC_owner s o ho5)
  have fo := h1.free (12 + o)
  have y : (s.owner o != 0) = true := by simpa using x3
  have hb2 : w2.cell? ⟨b, 6 + t, none⟩ = some (.bool (s.over t)) := h1.cell (stC_over s t ht)
  rw [x1] at hb1
  rw [x2] at hb2
  go_wp2
  go_quiet (fail)
  go_wp2
  go_quiet (fail)
  go_wp2
  go_ret
  exact ⟨rfl, by first | exact h1.drewN _ | exact (h1.drewN _).drewN _, by first | exact grown_of (below_drewN hb _) | exact grown_of (below_drewN (below_drewN hb _) _)⟩

set_option maxHeartbeats 1000000 in
theorem takes_acquire (s : St) (t o : Nat) (b : Nat) (w : World) (h : Has w b (stC s) 134) (hE : isEv ⟨3, t, o⟩ = true) (ht : t < 6) (x1 : s.begun t = true) (x2 : s.over t = false) (ho5 : o < 5) (x3 : s.owner o = 0) :
    Calls Tryd.prog 53 #[.pointer (some ⟨b, 0, none⟩), evV ⟨3, t, o⟩] w fun r w' => r = .returned (.int .i64 0) ∧ Took w w' b { s with owner := updI s.owner o (t + 1) } := by
  have h1 := h.alloc (.cells (evC ⟨3, t, o⟩) 30)
  have h0 := Has.new w (evC ⟨3, t, o⟩) 30
  have hb : Below w.heap.size w (w.alloc (.cells (evC ⟨3, t, o⟩) 30)) := (Below.refl _ _).alloc (by simp) _
  have hlt := h.lt
  go_enter Tryd.func53, Tryd.ntmps53
  go_wp2_with fail
  generalize w.alloc (.cells (evC ⟨3, t, o⟩) 30) = w1 at *
  refine (isEvent_any ⟨3, t, o⟩ _).mono ?_
  rintro r w2 ⟨rfl, hk⟩
  rw [hE]
  replace h1 := h1.below hk h1.lt
  replace h0 := h0.below hk h0.lt
  replace hb := hb.trans (hk.mono hb.size)
  have hne : b ≠ w.heap.size := by omega
  clear hk hE
  have f1 : w2.cell? ⟨w.heap.size, 1, none⟩ = some (.int .i64 (t : Int)) := h0.cell rfl
  have f2 : w2.cell? ⟨w.heap.size, 2, none⟩ = some (.int .i64 (o : Int)) := h0.cell rfl
  have f0 : w2.cell? ⟨w.heap.size, 0, none⟩ = some (.int .i64 3) := h0.cell rfl
  have hb1 : w2.cell? ⟨b, t, none⟩ = some (.bool (s.begun t)) := h1.cell (stC_begun s t ht)
  have i0 : (0 : Int) ≤ t := by omega
  have i6 : (t : Int) < 6 := by omega
  have j0 : (0 : Int) ≤ o := by omega
  have j5 : (o : Int) < 5 := by omega
  have ho : w2.cell? ⟨b, 12 + o, none⟩ = some (.int .i64 (s.owner o)) := h1.cell (stC_owner s o ho5)
  have fo := h1.free (12 + o)
  rw [x3] at ho
  have hb2 : w2.cell? ⟨b, 6 + t, none⟩ = some (.bool (s.over t)) := h1.cell (stC_over s t ht)
  rw [x1] at hb1
  rw [x2] at hb2
  go_wp2
  go_quiet (fail)
  go_wp2
  go_quiet (fail)
  go_wp2
  go_region
  all_goals
    go_wp2
    go_ret
    refine ⟨rfl, ?_, ?_⟩
    · first | exact ((((h1.drewN _).drewN _).drew).setCell _ _).to (stC_setOwner s o ho5 _) | exact (((h1.drewN _).drew).setCell _ _).to (stC_setOwner s o ho5 _) | exact ((((h1.drewN _).drewN _).setCell _ _)).drew.to (stC_setOwner s o ho5 _)
    · first | exact grown_set (grown_of ((below_drewN (below_drewN hb _) _).drew)) rfl _ | exact grown_set (grown_of (below_drewN hb _).drew) rfl _ | exact (grown_set (grown_of (below_drewN (below_drewN hb _) _)) rfl _).drewG

set_option maxHeartbeats 1000000 in
theorem takes_notheld (s : St) (t o : Nat) (b : Nat) (w : World) (h : Has w b (stC s) 134) (hE : isEv ⟨4, t, o⟩ = true) (ht : t < 6) (x1 : s.begun t = true) (x2 : s.over t = false) (ho5 : o < 5) (x3 : s.owner o ≠ t + 1) :
    Calls Tryd.prog 53 #[.pointer (some ⟨b, 0, none⟩), evV ⟨4, t, o⟩] w fun r w' => r = .returned (.int .i64 10) ∧ Took w w' b s := by
  have h1 := h.alloc (.cells (evC ⟨4, t, o⟩) 30)
  have h0 := Has.new w (evC ⟨4, t, o⟩) 30
  have hb : Below w.heap.size w (w.alloc (.cells (evC ⟨4, t, o⟩) 30)) := (Below.refl _ _).alloc (by simp) _
  have hlt := h.lt
  go_enter Tryd.func53, Tryd.ntmps53
  go_wp2_with fail
  generalize w.alloc (.cells (evC ⟨4, t, o⟩) 30) = w1 at *
  refine (isEvent_any ⟨4, t, o⟩ _).mono ?_
  rintro r w2 ⟨rfl, hk⟩
  rw [hE]
  replace h1 := h1.below hk h1.lt
  replace h0 := h0.below hk h0.lt
  replace hb := hb.trans (hk.mono hb.size)
  have hne : b ≠ w.heap.size := by omega
  clear hk hE
  have f1 : w2.cell? ⟨w.heap.size, 1, none⟩ = some (.int .i64 (t : Int)) := h0.cell rfl
  have f2 : w2.cell? ⟨w.heap.size, 2, none⟩ = some (.int .i64 (o : Int)) := h0.cell rfl
  have f0 : w2.cell? ⟨w.heap.size, 0, none⟩ = some (.int .i64 4) := h0.cell rfl
  have hb1 : w2.cell? ⟨b, t, none⟩ = some (.bool (s.begun t)) := h1.cell (stC_begun s t ht)
  have i0 : (0 : Int) ≤ t := by omega
  have i6 : (t : Int) < 6 := by omega
  have j0 : (0 : Int) ≤ o := by omega
  have j5 : (o : Int) < 5 := by omega
  have ho : w2.cell? ⟨b, 12 + o, none⟩ = some (.int .i64 (s.owner o)) := h1.cell (stC_owner s o ho5)
  have fo := h1.free (12 + o)
  have y : (s.owner o != (t : Int) + 1) = true := by simpa using x3
  have hwr := IntWalk.i64_in ((t : Int) + 1) (by omega)
  have hb2 : w2.cell? ⟨b, 6 + t, none⟩ = some (.bool (s.over t)) := h1.cell (stC_over s t ht)
  rw [x1] at hb1
  rw [x2] at hb2
  go_wp2
  go_quiet (fail)
  go_wp2
  go_quiet (fail)
  go_wp2
  go_ret
  exact ⟨rfl, by first | exact h1.drewN _ | exact (h1.drewN _).drewN _, by first | exact grown_of (below_drewN hb _) | exact grown_of (below_drewN (below_drewN hb _) _)⟩

set_option maxHeartbeats 1000000 in
theorem takes_release (s : St) (t o : Nat) (b : Nat) (w : World) (h : Has w b (stC s) 134) (hE : isEv ⟨4, t, o⟩ = true) (ht : t < 6) (x1 : s.begun t = true) (x2 : s.over t = false) (ho5 : o < 5) (x3 : s.owner o = t + 1) :
    Calls Tryd.prog 53 #[.pointer (some ⟨b, 0, none⟩), evV ⟨4, t, o⟩] w fun r w' => r = .returned (.int .i64 0) ∧ Took w w' b { s with owner := updI s.owner o 0 } := by
  have h1 := h.alloc (.cells (evC ⟨4, t, o⟩) 30)
  have h0 := Has.new w (evC ⟨4, t, o⟩) 30
  have hb : Below w.heap.size w (w.alloc (.cells (evC ⟨4, t, o⟩) 30)) := (Below.refl _ _).alloc (by simp) _
  have hlt := h.lt
  go_enter Tryd.func53, Tryd.ntmps53
  go_wp2_with fail
  generalize w.alloc (.cells (evC ⟨4, t, o⟩) 30) = w1 at *
  refine (isEvent_any ⟨4, t, o⟩ _).mono ?_
  rintro r w2 ⟨rfl, hk⟩
  rw [hE]
  replace h1 := h1.below hk h1.lt
  replace h0 := h0.below hk h0.lt
  replace hb := hb.trans (hk.mono hb.size)
  have hne : b ≠ w.heap.size := by omega
  clear hk hE
  have f1 : w2.cell? ⟨w.heap.size, 1, none⟩ = some (.int .i64 (t : Int)) := h0.cell rfl
  have f2 : w2.cell? ⟨w.heap.size, 2, none⟩ = some (.int .i64 (o : Int)) := h0.cell rfl
  have f0 : w2.cell? ⟨w.heap.size, 0, none⟩ = some (.int .i64 4) := h0.cell rfl
  have hb1 : w2.cell? ⟨b, t, none⟩ = some (.bool (s.begun t)) := h1.cell (stC_begun s t ht)
  have i0 : (0 : Int) ≤ t := by omega
  have i6 : (t : Int) < 6 := by omega
  have j0 : (0 : Int) ≤ o := by omega
  have j5 : (o : Int) < 5 := by omega
  have ho : w2.cell? ⟨b, 12 + o, none⟩ = some (.int .i64 (s.owner o)) := h1.cell (stC_owner s o ho5)
  have fo := h1.free (12 + o)
  rw [x3] at ho
  have hwr := IntWalk.i64_in ((t : Int) + 1) (by omega)
  have hb2 : w2.cell? ⟨b, 6 + t, none⟩ = some (.bool (s.over t)) := h1.cell (stC_over s t ht)
  rw [x1] at hb1
  rw [x2] at hb2
  go_wp2
  go_quiet (fail)
  go_wp2
  go_quiet (fail)
  go_wp2
  go_region
  all_goals
    go_wp2
    go_ret
    refine ⟨rfl, ?_, ?_⟩
    · first | exact ((((h1.drewN _).drewN _).drew).setCell _ _).to (stC_setOwner s o ho5 _) | exact (((h1.drewN _).drew).setCell _ _).to (stC_setOwner s o ho5 _) | exact ((((h1.drewN _).drewN _).setCell _ _)).drew.to (stC_setOwner s o ho5 _)
    · first | exact grown_set (grown_of ((below_drewN (below_drewN hb _) _).drew)) rfl _ | exact grown_set (grown_of (below_drewN hb _).drew) rfl _ | exact (grown_set (grown_of (below_drewN (below_drewN hb _) _)) rfl _).drewG

set_option maxHeartbeats 1000000 in
theorem takes_twice (s : St) (t o : Nat) (b : Nat) (w : World) (h : Has w b (stC s) 134) (hE : isEv ⟨5, t, o⟩ = true) (ht : t < 6) (x1 : s.begun t = true) (x2 : s.over t = false) (ho6 : o < 6) (x3 : s.begun o = true) :
    Calls Tryd.prog 53 #[.pointer (some ⟨b, 0, none⟩), evV ⟨5, t, o⟩] w fun r w' => r = .returned (.int .i64 8) ∧ Took w w' b s := by
  have h1 := h.alloc (.cells (evC ⟨5, t, o⟩) 30)
  have h0 := Has.new w (evC ⟨5, t, o⟩) 30
  have hb : Below w.heap.size w (w.alloc (.cells (evC ⟨5, t, o⟩) 30)) := (Below.refl _ _).alloc (by simp) _
  have hlt := h.lt
  go_enter Tryd.func53, Tryd.ntmps53
  go_wp2_with fail
  generalize w.alloc (.cells (evC ⟨5, t, o⟩) 30) = w1 at *
  refine (isEvent_any ⟨5, t, o⟩ _).mono ?_
  rintro r w2 ⟨rfl, hk⟩
  rw [hE]
  replace h1 := h1.below hk h1.lt
  replace h0 := h0.below hk h0.lt
  replace hb := hb.trans (hk.mono hb.size)
  have hne : b ≠ w.heap.size := by omega
  clear hk hE
  have f1 : w2.cell? ⟨w.heap.size, 1, none⟩ = some (.int .i64 (t : Int)) := h0.cell rfl
  have f2 : w2.cell? ⟨w.heap.size, 2, none⟩ = some (.int .i64 (o : Int)) := h0.cell rfl
  have f0 : w2.cell? ⟨w.heap.size, 0, none⟩ = some (.int .i64 5) := h0.cell rfl
  have hb1 : w2.cell? ⟨b, t, none⟩ = some (.bool (s.begun t)) := h1.cell (stC_begun s t ht)
  have i0 : (0 : Int) ≤ t := by omega
  have i6 : (t : Int) < 6 := by omega
  have j0 : (0 : Int) ≤ o := by omega
  have j6 : (o : Int) < 6 := by omega
  have ho : w2.cell? ⟨b, o, none⟩ = some (.bool (s.begun o)) := h1.cell (stC_begun s o ho6)
  have fo := h1.free o
  rw [x3] at ho
  have hb2 : w2.cell? ⟨b, 6 + t, none⟩ = some (.bool (s.over t)) := h1.cell (stC_over s t ht)
  rw [x1] at hb1
  rw [x2] at hb2
  go_wp2
  go_quiet (fail)
  go_wp2
  go_quiet (fail)
  go_wp2
  go_ret
  exact ⟨rfl, by first | exact h1.drewN _ | exact (h1.drewN _).drewN _, by first | exact grown_of (below_drewN hb _) | exact grown_of (below_drewN (below_drewN hb _) _)⟩

set_option maxHeartbeats 1000000 in
theorem takes_fork (s : St) (t o : Nat) (b : Nat) (w : World) (h : Has w b (stC s) 134) (hE : isEv ⟨5, t, o⟩ = true) (ht : t < 6) (x1 : s.begun t = true) (x2 : s.over t = false) (ho6 : o < 6) (x3 : s.begun o = false) :
    Calls Tryd.prog 53 #[.pointer (some ⟨b, 0, none⟩), evV ⟨5, t, o⟩] w fun r w' => r = .returned (.int .i64 0) ∧ Took w w' b { s with begun := updB s.begun o } := by
  have h1 := h.alloc (.cells (evC ⟨5, t, o⟩) 30)
  have h0 := Has.new w (evC ⟨5, t, o⟩) 30
  have hb : Below w.heap.size w (w.alloc (.cells (evC ⟨5, t, o⟩) 30)) := (Below.refl _ _).alloc (by simp) _
  have hlt := h.lt
  go_enter Tryd.func53, Tryd.ntmps53
  go_wp2_with fail
  generalize w.alloc (.cells (evC ⟨5, t, o⟩) 30) = w1 at *
  refine (isEvent_any ⟨5, t, o⟩ _).mono ?_
  rintro r w2 ⟨rfl, hk⟩
  rw [hE]
  replace h1 := h1.below hk h1.lt
  replace h0 := h0.below hk h0.lt
  replace hb := hb.trans (hk.mono hb.size)
  have hne : b ≠ w.heap.size := by omega
  clear hk hE
  have f1 : w2.cell? ⟨w.heap.size, 1, none⟩ = some (.int .i64 (t : Int)) := h0.cell rfl
  have f2 : w2.cell? ⟨w.heap.size, 2, none⟩ = some (.int .i64 (o : Int)) := h0.cell rfl
  have f0 : w2.cell? ⟨w.heap.size, 0, none⟩ = some (.int .i64 5) := h0.cell rfl
  have hb1 : w2.cell? ⟨b, t, none⟩ = some (.bool (s.begun t)) := h1.cell (stC_begun s t ht)
  have i0 : (0 : Int) ≤ t := by omega
  have i6 : (t : Int) < 6 := by omega
  have j0 : (0 : Int) ≤ o := by omega
  have j6 : (o : Int) < 6 := by omega
  have ho : w2.cell? ⟨b, o, none⟩ = some (.bool (s.begun o)) := h1.cell (stC_begun s o ho6)
  have fo := h1.free o
  rw [x3] at ho
  have hb2 : w2.cell? ⟨b, 6 + t, none⟩ = some (.bool (s.over t)) := h1.cell (stC_over s t ht)
  rw [x1] at hb1
  rw [x2] at hb2
  go_wp2
  go_quiet (fail)
  go_wp2
  go_quiet (fail)
  go_wp2
  go_region
  all_goals
    go_wp2
    go_ret
    refine ⟨rfl, ?_, ?_⟩
    · first | exact ((((h1.drewN _).drewN _).drew).setCell _ _).to (stC_setBegun s o ho6) | exact (((h1.drewN _).drew).setCell _ _).to (stC_setBegun s o ho6) | exact ((((h1.drewN _).drewN _).setCell _ _)).drew.to (stC_setBegun s o ho6)
    · first | exact grown_set (grown_of ((below_drewN (below_drewN hb _) _).drew)) rfl _ | exact grown_set (grown_of (below_drewN hb _).drew) rfl _ | exact (grown_set (grown_of (below_drewN (below_drewN hb _) _)) rfl _).drewG

set_option maxHeartbeats 1000000 in
theorem takes_none (s : St) (t o : Nat) (b : Nat) (w : World) (h : Has w b (stC s) 134) (hE : isEv ⟨6, t, o⟩ = true) (ht : t < 6) (x1 : s.begun t = true) (x2 : s.over t = false) (ho6 : o < 6) (x3 : s.begun o = false) :
    Calls Tryd.prog 53 #[.pointer (some ⟨b, 0, none⟩), evV ⟨6, t, o⟩] w fun r w' => r = .returned (.int .i64 7) ∧ Took w w' b s := by
  have h1 := h.alloc (.cells (evC ⟨6, t, o⟩) 30)
  have h0 := Has.new w (evC ⟨6, t, o⟩) 30
  have hb : Below w.heap.size w (w.alloc (.cells (evC ⟨6, t, o⟩) 30)) := (Below.refl _ _).alloc (by simp) _
  have hlt := h.lt
  go_enter Tryd.func53, Tryd.ntmps53
  go_wp2_with fail
  generalize w.alloc (.cells (evC ⟨6, t, o⟩) 30) = w1 at *
  refine (isEvent_any ⟨6, t, o⟩ _).mono ?_
  rintro r w2 ⟨rfl, hk⟩
  rw [hE]
  replace h1 := h1.below hk h1.lt
  replace h0 := h0.below hk h0.lt
  replace hb := hb.trans (hk.mono hb.size)
  have hne : b ≠ w.heap.size := by omega
  clear hk hE
  have f1 : w2.cell? ⟨w.heap.size, 1, none⟩ = some (.int .i64 (t : Int)) := h0.cell rfl
  have f2 : w2.cell? ⟨w.heap.size, 2, none⟩ = some (.int .i64 (o : Int)) := h0.cell rfl
  have f0 : w2.cell? ⟨w.heap.size, 0, none⟩ = some (.int .i64 6) := h0.cell rfl
  have hb1 : w2.cell? ⟨b, t, none⟩ = some (.bool (s.begun t)) := h1.cell (stC_begun s t ht)
  have i0 : (0 : Int) ≤ t := by omega
  have i6 : (t : Int) < 6 := by omega
  have j0 : (0 : Int) ≤ o := by omega
  have j6 : (o : Int) < 6 := by omega
  have ho : w2.cell? ⟨b, o, none⟩ = some (.bool (s.begun o)) := h1.cell (stC_begun s o ho6)
  have fo := h1.free o
  rw [x3] at ho
  have hb2 : w2.cell? ⟨b, 6 + t, none⟩ = some (.bool (s.over t)) := h1.cell (stC_over s t ht)
  rw [x1] at hb1
  rw [x2] at hb2
  go_wp2
  go_quiet (fail)
  go_wp2
  go_quiet (fail)
  go_wp2
  go_ret
  exact ⟨rfl, by first | exact h1.drewN _ | exact (h1.drewN _).drewN _, by first | exact grown_of (below_drewN hb _) | exact grown_of (below_drewN (below_drewN hb _) _)⟩

set_option maxHeartbeats 1000000 in
theorem takes_self (s : St) (t : Nat) (b : Nat) (w : World) (h : Has w b (stC s) 134) (hE : isEv ⟨6, t, t⟩ = true) (ht : t < 6) (x1 : s.begun t = true) (x2 : s.over t = false) :
    Calls Tryd.prog 53 #[.pointer (some ⟨b, 0, none⟩), evV ⟨6, t, t⟩] w fun r w' => r = .returned (.int .i64 7) ∧ Took w w' b s := by
  have h1 := h.alloc (.cells (evC ⟨6, t, t⟩) 30)
  have h0 := Has.new w (evC ⟨6, t, t⟩) 30
  have hb : Below w.heap.size w (w.alloc (.cells (evC ⟨6, t, t⟩) 30)) := (Below.refl _ _).alloc (by simp) _
  have hlt := h.lt
  go_enter Tryd.func53, Tryd.ntmps53
  go_wp2_with fail
  generalize w.alloc (.cells (evC ⟨6, t, t⟩) 30) = w1 at *
  refine (isEvent_any ⟨6, t, t⟩ _).mono ?_
  rintro r w2 ⟨rfl, hk⟩
  rw [hE]
  replace h1 := h1.below hk h1.lt
  replace h0 := h0.below hk h0.lt
  replace hb := hb.trans (hk.mono hb.size)
  have hne : b ≠ w.heap.size := by omega
  clear hk hE
  have f1 : w2.cell? ⟨w.heap.size, 1, none⟩ = some (.int .i64 (t : Int)) := h0.cell rfl
  have f2 : w2.cell? ⟨w.heap.size, 2, none⟩ = some (.int .i64 (t : Int)) := h0.cell rfl
  have f0 : w2.cell? ⟨w.heap.size, 0, none⟩ = some (.int .i64 6) := h0.cell rfl
  have hb1 : w2.cell? ⟨b, t, none⟩ = some (.bool (s.begun t)) := h1.cell (stC_begun s t ht)
  have i0 : (0 : Int) ≤ t := by omega
  have i6 : (t : Int) < 6 := by omega
  have y : ((t : Int) == (t : Int)) = true := by simp
  have hb2 : w2.cell? ⟨b, 6 + t, none⟩ = some (.bool (s.over t)) := h1.cell (stC_over s t ht)
  rw [x1] at hb1
  rw [x2] at hb2
  go_wp2
  go_quiet (fail)
  go_wp2
  go_quiet (fail)
  go_wp2
  go_ret
  exact ⟨rfl, by first | exact h1.drewN _ | exact (h1.drewN _).drewN _, by first | exact grown_of (below_drewN hb _) | exact grown_of (below_drewN (below_drewN hb _) _)⟩

set_option maxHeartbeats 1000000 in
theorem takes_join (s : St) (t o : Nat) (b : Nat) (w : World) (h : Has w b (stC s) 134) (hE : isEv ⟨6, t, o⟩ = true) (ht : t < 6) (x1 : s.begun t = true) (x2 : s.over t = false) (ho6 : o < 6) (x3 : s.begun o = true) (x4 : o ≠ t) :
    Calls Tryd.prog 53 #[.pointer (some ⟨b, 0, none⟩), evV ⟨6, t, o⟩] w fun r w' => r = .returned (.int .i64 0) ∧ Took w w' b { s with over := updB s.over o } := by
  have h1 := h.alloc (.cells (evC ⟨6, t, o⟩) 30)
  have h0 := Has.new w (evC ⟨6, t, o⟩) 30
  have hb : Below w.heap.size w (w.alloc (.cells (evC ⟨6, t, o⟩) 30)) := (Below.refl _ _).alloc (by simp) _
  have hlt := h.lt
  go_enter Tryd.func53, Tryd.ntmps53
  go_wp2_with fail
  generalize w.alloc (.cells (evC ⟨6, t, o⟩) 30) = w1 at *
  refine (isEvent_any ⟨6, t, o⟩ _).mono ?_
  rintro r w2 ⟨rfl, hk⟩
  rw [hE]
  replace h1 := h1.below hk h1.lt
  replace h0 := h0.below hk h0.lt
  replace hb := hb.trans (hk.mono hb.size)
  have hne : b ≠ w.heap.size := by omega
  clear hk hE
  have f1 : w2.cell? ⟨w.heap.size, 1, none⟩ = some (.int .i64 (t : Int)) := h0.cell rfl
  have f2 : w2.cell? ⟨w.heap.size, 2, none⟩ = some (.int .i64 (o : Int)) := h0.cell rfl
  have f0 : w2.cell? ⟨w.heap.size, 0, none⟩ = some (.int .i64 6) := h0.cell rfl
  have hb1 : w2.cell? ⟨b, t, none⟩ = some (.bool (s.begun t)) := h1.cell (stC_begun s t ht)
  have i0 : (0 : Int) ≤ t := by omega
  have i6 : (t : Int) < 6 := by omega
  have j0 : (0 : Int) ≤ o := by omega
  have j6 : (o : Int) < 6 := by omega
  have ho : w2.cell? ⟨b, o, none⟩ = some (.bool (s.begun o)) := h1.cell (stC_begun s o ho6)
  have fo := h1.free o
  rw [x3] at ho
  have y : ((o : Int) == (t : Int)) = false := by simp; omega
  have fo2 := h1.free (6 + o)
  have hq : w2.cell? ⟨b, 6 + o, none⟩ = some (.bool (s.over o)) := h1.cell (stC_over s o ho6)
  have hb2 : w2.cell? ⟨b, 6 + t, none⟩ = some (.bool (s.over t)) := h1.cell (stC_over s t ht)
  rw [x1] at hb1
  rw [x2] at hb2
  go_wp2
  go_quiet (fail)
  go_wp2
  go_quiet (fail)
  go_wp2
  go_region
  all_goals
    go_wp2
    go_ret
    refine ⟨rfl, ?_, ?_⟩
    · first | exact ((((h1.drewN _).drewN _).drew).setCell _ _).to (stC_setOver s o ho6) | exact (((h1.drewN _).drew).setCell _ _).to (stC_setOver s o ho6) | exact ((((h1.drewN _).drewN _).setCell _ _)).drew.to (stC_setOver s o ho6)
    · first | exact grown_set (grown_of ((below_drewN (below_drewN hb _) _).drew)) rfl _ | exact grown_set (grown_of (below_drewN hb _).drew) rfl _ | exact (grown_set (grown_of (below_drewN (below_drewN hb _) _)) rfl _).drewG

end Go.Proofs.YtmeidjhojanogaaDoor

/- Contracts of package trace: takes whole, first, played, Check, may. -/
namespace Go.Proofs.YtmeidjhojanogaaDoor
open Go.RowKit

theorem took_same {s s' : St} {w w' : World} {b : Nat} (h : Took w w' b s) (e : s = s') : Took w w' b s' := e ▸ h

theorem takes_any (s : St) (e : Ev) (b : Nat) (w : World) (h : Has w b (stC s) 134) :
    Calls Tryd.prog 53 #[.pointer (some ⟨b, 0, none⟩), evV e] w fun r w' => r = .returned (.int .i64 (err s e)) ∧ Took w w' b (if err s e = 0 then nxt s e else s) := by
  by_cases hE : isEv e = true
  · obtain ⟨K, t, o⟩ := e
    obtain ⟨h1, h2, h3, h4⟩ := isEv_iff.1 hE
    simp only at h1 h2 h3 h4
    have hp := manyOf_pos (k := K) (by omega)
    obtain ⟨t, rfl⟩ := Int.eq_ofNat_of_zero_le h1
    obtain ⟨o, rfl⟩ := Int.eq_ofNat_of_zero_le h3
    have ht : t < 6 := by omega
    by_cases x1 : s.begun t = true
    · by_cases x2 : s.over t = true
      · have he : err s ⟨K, t, o⟩ = 11 := by simp [err, hE, x1, x2]
        rw [he]; exact takes_over s K t o b w h hE ht x1 x2
      · have x2' : s.over t = false := by simpa using x2
        rcases hp with rfl | rfl | rfl | rfl | rfl | rfl | rfl | rfl
        · have he : err s ⟨1, t, o⟩ = 0 := by simp [err, hE, x1, x2']
          rw [he]; exact takes_plain1 s t o b w h hE ht x1 x2'
        · have he : err s ⟨2, t, o⟩ = 0 := by simp [err, hE, x1, x2']
          rw [he]; exact takes_plain2 s t o b w h hE ht x1 x2'
        · have ho : o < 5 := by simp [manyOf] at h4; omega
          by_cases x3 : s.owner o = 0
          · have he : err s ⟨3, t, o⟩ = 0 := by simp [err, hE, x1, x2', x3]
            rw [he]; exact takes_acquire s t o b w h hE ht x1 x2' ho x3
          · have he : err s ⟨3, t, o⟩ = 9 := by simp [err, hE, x1, x2', x3]
            rw [he]; exact takes_held s t o b w h hE ht x1 x2' ho x3
        · have ho : o < 5 := by simp [manyOf] at h4; omega
          by_cases x3 : s.owner o = t + 1
          · have he : err s ⟨4, t, o⟩ = 0 := by simp [err, hE, x1, x2', x3]
            rw [he]; exact takes_release s t o b w h hE ht x1 x2' ho x3
          · have he : err s ⟨4, t, o⟩ = 10 := by simp [err, hE, x1, x2', x3]
            rw [he]; exact takes_notheld s t o b w h hE ht x1 x2' ho x3
        · have ho : o < 6 := by simp [manyOf] at h4; omega
          by_cases x3 : s.begun o = true
          · have he : err s ⟨5, t, o⟩ = 8 := by simp [err, hE, x1, x2', x3]
            rw [he]; exact takes_twice s t o b w h hE ht x1 x2' ho x3
          · have x3' : s.begun o = false := by simpa using x3
            have he : err s ⟨5, t, o⟩ = 0 := by simp [err, hE, x1, x2', x3']
            rw [he]; exact takes_fork s t o b w h hE ht x1 x2' ho x3'
        · have ho : o < 6 := by simp [manyOf] at h4; omega
          by_cases x3 : s.begun o = true
          · by_cases x4 : o = t
            · subst x4
              have he : err s ⟨6, o, o⟩ = 7 := by simp [err, hE, x1, x2']
              rw [he]; exact takes_self s o b w h hE ht x1 x2'
            · have x4' : ¬ (o : Int) = (t : Int) := by omega
              have he : err s ⟨6, t, o⟩ = 0 := by simp [err, hE, x1, x2', x3, x4']
              rw [he]; exact takes_join s t o b w h hE ht x1 x2' ho x3 x4
          · have x3' : s.begun o = false := by simpa using x3
            have he : err s ⟨6, t, o⟩ = 7 := by simp [err, hE, x1, x2', x3']
            rw [he]; exact takes_none s t o b w h hE ht x1 x2' ho x3'
        · have he : err s ⟨7, t, o⟩ = 0 := by simp [err, hE, x1, x2']
          rw [he]; exact takes_plain7 s t o b w h hE ht x1 x2'
        · have he : err s ⟨8, t, o⟩ = 0 := by simp [err, hE, x1, x2']
          rw [he]; exact takes_plain8 s t o b w h hE ht x1 x2'
    · have x1' : s.begun t = false := by simpa using x1
      have he : err s ⟨K, t, o⟩ = 11 := by simp [err, hE, x1']
      rw [he]; exact takes_unbegun s K t o b w h hE ht x1'
  · have hE' : isEv e = false := by simpa using hE
    have he : err s e = 1 := by simp [err, hE']
    rw [he]; exact takes_bad s e b w h hE'

theorem first_any (w : World) : Calls Tryd.prog 52 #[] w fun r w' => r = .returned (.pointer (some ⟨w.heap.size, 0, none⟩)) ∧ Has w' w.heap.size (stC St.first) 134 ∧ Below w.heap.size w w' := by
  go_enter Tryd.func52, Tryd.ntmps52
  go_wp2
  go_ret
  exact ⟨rfl, (Has.new w _ _).to rfl, (Below.refl _ _).alloc (by simp) _⟩

/-- A slice of events: its elements read as a list. -/
structure EvS (w : World) (a : Option Addr) (l : List Ev) : Prop where
  big : l.length < 4611686018427387904
  ok : l = [] ∨ ∃ b o, a = some ⟨b, o, none⟩ ∧ ∀ i (h : i < l.length), w.cell? ⟨b, o + i * 3, none⟩ = some (.int .i64 l[i].k) ∧ w.cell? ⟨b, o + i * 3 + 1, none⟩ = some (.int .i64 l[i].t) ∧ w.cell? ⟨b, o + i * 3 + 2, none⟩ = some (.int .i64 l[i].o)
theorem EvS.below {w w' : World} {a : Option Addr} {l : List Ev} (h : EvS w a l) (k : Below w.heap.size w w') : EvS w' a l := by
  refine ⟨h.big, ?_⟩
  rcases h.ok with h0 | ⟨b, o, ha, hc⟩
  · exact .inl h0
  · refine .inr ⟨b, o, ha, fun i hi => ?_⟩
    obtain ⟨h1, h2, h3⟩ := hc i hi
    exact ⟨(k.cell (World.block_lt_of_cell? w _ h1)).trans h1, (k.cell (World.block_lt_of_cell? w _ h2)).trans h2, (k.cell (World.block_lt_of_cell? w _ h3)).trans h3⟩

set_option maxHeartbeats 1000000 in
theorem played_any (l : List Ev) (a : Option Addr) (c : Nat) (w : World) (h : EvS w a l) :
    Calls Tryd.prog 39 #[.slice a l.length c] w fun r w' => r = .returned (.tuple #[.pointer (some ⟨w.heap.size, 0, none⟩), .int .i64 (played l).2.1, .int .i64 (played l).2.2]) ∧ Has w' w.heap.size (stC (played l).1) 134 ∧ Below w.heap.size w w' := by
  have hbig := h.big
  have HS := Lib.hid h.ok
  by_cases hl : 80 < l.length
  · have hp : played l = (St.first, 0, 2) := by simp [played, hl]
    rw [hp]
    clear hp
    go_enter Tryd.func39, Tryd.ntmps39
    go_wp2_with fail
    refine (first_any _).mono ?_
    rintro r w' ⟨rfl, h1, hb⟩
    go_wp2
    go_ret3
    exact ⟨rfl, h1, hb⟩
  · have hl80 : l.length ≤ 80 := by omega
    have hp : played l = playL St.first 0 l := by simp [played, hl]
    rw [hp]
    clear hp hl
    go_enter Tryd.func39, Tryd.ntmps39
    go_wp2_with fail
    refine (first_any _).mono ?_
    rintro r w' ⟨rfl, h1, hb⟩
    go_wp2
    go_loopw [16] (fun i wr => ∃ (k : Nat) (s : St), k ≤ l.length ∧ i = .int .i64 k ∧ Hid (playL St.first 0 l = playL s k (l.drop k)) ∧ Has wr w.heap.size (stC s) 134 ∧ Below w.heap.size w wr) (fun i _ => l.length - (intOf i).toNat)
    case atStart => exact ⟨0, St.first, Nat.zero_le _, rfl, Lib.hid rfl, h1, hb⟩
    case round =>
      clear h1 hb
      obtain ⟨k, s, hk, rfl, HP, h1, hb⟩ := hrel
      by_cases hlt : k < l.length
      · obtain ⟨b, o, rfl, hc⟩ : ∃ b o, a = some ⟨b, o, none⟩ ∧ ∀ i (h : i < l.length), w.cell? ⟨b, o + i * 3, none⟩ = some (.int .i64 l[i].k) ∧ w.cell? ⟨b, o + i * 3 + 1, none⟩ = some (.int .i64 l[i].t) ∧ w.cell? ⟨b, o + i * 3 + 2, none⟩ = some (.int .i64 l[i].o) := by
          rcases HS.out with h0 | h0
          · simp [h0] at hlt
          · exact h0
        clear HS
        obtain ⟨c0, c1, c2⟩ := hc k hlt
        clear hc
        have hbl := World.block_lt_of_cell? w _ c0
        simp only at hbl
        have d0 := (hb.cell (p := ⟨b, o + k * 3, none⟩) hbl).trans c0
        have d1 := (hb.cell (p := ⟨b, o + k * 3 + 1, none⟩) hbl).trans c1
        have d2 := (hb.cell (p := ⟨b, o + k * 3 + 2, none⟩) hbl).trans c2
        clear c0 c1 c2
        have hd : l.drop k = l[k] :: l.drop (k + 1) := List.drop_eq_getElem_cons hlt
        generalize hx : l[k] = x at *
        have HD := Lib.hid hd
        clear hd hx
        by_cases he : err s x = 0
        · have hn : playL St.first 0 l = playL (nxt s x) (k + 1) (l.drop (k + 1)) := by rw [HP.out, HD.out]; simp [playL, he]
          have HN := Lib.hid hn
          clear hn HP HD
          have h1' := h1.alloc (.cells (evC x) 30)
          have hb' := hb.alloc hb.size (.cells (evC x) 30)
          go_wp2_with fail
          refine (takes_any s x _ _ h1').mono ?_
          rintro r w2 ⟨rfl, ht⟩
          rw [he] at ht ⊢
          rw [if_pos rfl] at ht
          have hb2 := hb'.grown ht.grown hb'.size (by intro j hj; cases hj; exact Nat.le_refl _)
          have h2 := ht.has
          clear ht he h1' hb' h1 hb d0 d1 d2
          go_wp2
          go_roundw
          case rel => exact ⟨k + 1, _, by omega, by go_num, HN, h2, hb2⟩
          case measure => simp [intOf]; omega
        · have hn : playL St.first 0 l = (s, k, err s x) := by rw [HP.out, HD.out]; simp [playL, he]
          have HN := Lib.hid hn
          have hne : (err s x != 0) = true := by simpa using he
          clear hn HP HD
          have h1' := h1.alloc (.cells (evC x) 30)
          have hb' := hb.alloc hb.size (.cells (evC x) 30)
          go_wp2_with fail
          refine (takes_any s x _ _ h1').mono ?_
          rintro r w2 ⟨rfl, ht⟩
          rw [if_neg he] at ht
          have hb2 := hb'.grown ht.grown hb'.size (by intro j hj; cases hj; exact Nat.le_refl _)
          have h2 := ht.has
          clear ht he h1' hb' h1 hb d0 d1 d2
          go_wp2
          go_ret3
          rw [HN.out]
          exact ⟨rfl, h2, hb2⟩
      · obtain rfl : k = l.length := by omega
        have hn : playL St.first 0 l = (s, 0, 0) := by rw [HP.out]; simp [playL]
        have HN := Lib.hid hn
        clear hn HP
        go_wp2
        go_ret3
        rw [HN.out]
        exact ⟨rfl, h1, hb⟩

theorem check_any (l : List Ev) (a : Option Addr) (c : Nat) (w : World) (h : EvS w a l) :
    Calls Tryd.prog 23 #[.slice a l.length c] w fun r w' => r = .returned (.tuple #[.int .i64 (played l).2.1, .int .i64 (played l).2.2]) ∧ Below w.heap.size w w' := by
  go_enter Tryd.func23, Tryd.ntmps23
  go_wp2_with fail
  refine (played_any l a c _ h).mono ?_
  rintro r w' ⟨rfl, h1, hb⟩
  go_wp2
  go_ret2
  exact ⟨rfl, hb⟩
end Go.Proofs.YtmeidjhojanogaaDoor
