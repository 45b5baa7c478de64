/- The frame of a tied card whose walk reads a variable of Go's library; the walk of TextLine. -/
import Derived.Test.YtmeidjhojanogaaDoorTxF
import Derived.HandedShaped
import Derived.Shelf.Vars
namespace Go.Proofs.YtmeidjhojanogaaDoor
open Go.RowKit

theorem event_line (x : Ev) (hx : isEv x = true) (m : Int) (w : World) (hm : w.cell? ⟨0, 0, none⟩ = some (.int .i64 m)) :
    Calls Tryd.prog 12 #[.string (lineB x)] w fun r w' => r = .returned (.tuple #[evV x, .int .i64 0]) ∧ Below w.heap.size w w' := by
  obtain ⟨⟨k1, k8⟩, ⟨t0, t6⟩, o0, o8⟩ := isEv_bounds hx
  obtain ⟨k, t, o⟩ := x
  obtain ⟨k, rfl⟩ := Int.eq_ofNat_of_zero_le (show 0 ≤ k by simp at k1; omega)
  obtain ⟨t, rfl⟩ := Int.eq_ofNat_of_zero_le t0
  obtain ⟨o, rfl⟩ := Int.eq_ofNat_of_zero_le o0
  simp only at k1 k8 t6 o8
  rw [line_X (K := k) (T := t) (O := o) rfl rfl rfl (by omega) (by omega)]
  exact event_X k t o (by omega) (by omega) (by omega) (by omega) hx m w hm
set_option maxRecDepth 100000 in
set_option maxHeartbeats 8000000 in
theorem textLine_walk (x y : Ev) (w : World) (m : Int) (hm : w.cell? ⟨0, 0, none⟩ = some (.int .i64 m)) (_ : I64 x.k ∧ I64 x.t ∧ I64 x.o) (_ : I64 y.k ∧ I64 y.t ∧ I64 y.o) :
    Calls Tryd.prog 4 #[evV x, evV y] w fun e w' => e = .returned (.bool true) ∧ Below w.heap.size w w' := by
  have hb0 := ((Below.refl w.heap.size w).alloc (Nat.le_refl _) (.cells (evC x) 30)).alloc (by simp) (.cells (evC y) 30)
  have hX := (Has.new w (evC x) 30).alloc (.cells (evC y) 30)
  have hY : Has ((w.alloc (.cells (evC x) 30)).alloc (.cells (evC y) 30)) (w.heap.size + 1) (evC y) 30 := by
    have := Has.new (w.alloc (.cells (evC x) 30)) (evC y) 30
    rwa [World.size_alloc] at this
  have hmlt := World.block_lt_of_cell? w _ hm
  go_enter Tryd.func4, Tryd.ntmps4
  go_wp2_with fail
  generalize (w.alloc (.cells (evC x) 30)).alloc (.cells (evC y) 30) = W0 at *
  refine (texted_any W0).mono ?_
  rintro r w1 ⟨rfl, hb1⟩
  have hX1 := hX.below hb1 hX.lt
  have hY1 := hY.below hb1 hY.lt
  have hk1 := hb0.trans (hb1.mono hb0.size)
  clear hX hY hb0 hb1
  have e0 : w1.cell? ⟨w.heap.size, 0, none⟩ = some (.int .i64 x.k) := hX1.cell rfl
  have e1 : w1.cell? ⟨w.heap.size, 1, none⟩ = some (.int .i64 x.t) := hX1.cell rfl
  have e2 : w1.cell? ⟨w.heap.size, 2, none⟩ = some (.int .i64 x.o) := hX1.cell rfl
  go_wp2_with fail
  refine (line_any x w1).mono ?_
  rintro r w2 ⟨rfl, hb2⟩
  have hX2 := hX1.below hb2 hX1.lt
  have hY2 := hY1.below hb2 hY1.lt
  have hk2 := hk1.trans (hb2.mono hk1.size)
  clear hX1 hY1 hk1 hb2 e0 e1 e2
  have f0 : w2.cell? ⟨w.heap.size + 1, 0, none⟩ = some (.int .i64 y.k) := hY2.cell rfl
  have f1 : w2.cell? ⟨w.heap.size + 1, 1, none⟩ = some (.int .i64 y.t) := hY2.cell rfl
  have f2 : w2.cell? ⟨w.heap.size + 1, 2, none⟩ = some (.int .i64 y.o) := hY2.cell rfl
  generalize hu1 : (if isEv x = true then lineB x else ⟨#[]⟩) = u1
  generalize hv1 : (if isEv x = true then (0 : Int) else 1) = v1
  go_wp2_with fail
  refine (line_any y w2).mono ?_
  rintro r w3 ⟨rfl, hb3⟩
  have hX3 := hX2.below hb3 hX2.lt
  have hY3 := hY2.below hb3 hY2.lt
  have hk3 := hk2.trans (hb3.mono hk2.size)
  clear hX2 hY2 hk2 hb3 f0 f1 f2
  have hm3 := (hk3.cell hmlt).trans hm
  have e0 : w3.cell? ⟨w.heap.size, 0, none⟩ = some (.int .i64 x.k) := hX3.cell rfl
  have e1 : w3.cell? ⟨w.heap.size, 1, none⟩ = some (.int .i64 x.t) := hX3.cell rfl
  have e2 : w3.cell? ⟨w.heap.size, 2, none⟩ = some (.int .i64 x.o) := hX3.cell rfl
  have f0 : w3.cell? ⟨w.heap.size + 1, 0, none⟩ = some (.int .i64 y.k) := hY3.cell rfl
  have f1 : w3.cell? ⟨w.heap.size + 1, 1, none⟩ = some (.int .i64 y.t) := hY3.cell rfl
  have f2 : w3.cell? ⟨w.heap.size + 1, 2, none⟩ = some (.int .i64 y.o) := hY3.cell rfl
  generalize hu2 : (if isEv y = true then lineB y else ⟨#[]⟩) = u2
  generalize hv2 : (if isEv y = true then (0 : Int) else 1) = v2
  cases hqx : isEv x
  · rw [hqx] at hu1 hv1
    obtain rfl : u1 = ⟨#[]⟩ := hu1.symm
    obtain rfl : v1 = 1 := hv1.symm
    clear hu1 hv1 hu2 hv2
    go_wp2
    all_goals
      go_ret
      exact ⟨rfl, hk3⟩
  · rw [hqx] at hu1 hv1
    obtain rfl : u1 = lineB x := hu1.symm
    obtain rfl : v1 = 0 := hv1.symm
    cases hqy : isEv y
    · rw [hqy] at hu2 hv2
      obtain rfl : u2 = ⟨#[]⟩ := hu2.symm
      obtain rfl : v2 = 1 := hv2.symm
      clear hu1 hv1 hu2 hv2
      go_wp2
      all_goals
        go_ret
        exact ⟨rfl, hk3⟩
    · rw [hqy] at hu2 hv2
      obtain rfl : u2 = lineB y := hu2.symm
      obtain rfl : v2 = 0 := hv2.symm
      clear hu1 hv1 hu2 hv2
      go_wp2_with fail
      refine (event_line x hqx m w3 hm3).mono ?_
      rintro r w4 ⟨rfl, hb4⟩
      have hX4 := hX3.below hb4 hX3.lt
      have hY4 := hY3.below hb4 hY3.lt
      have hk4 := hk3.trans (hb4.mono hk3.size)
      clear e0 e1 e2 f0 f1 f2 hX3 hY3 hk3 hb4 hm3
      have hk5 := hk4.alloc hk4.size (.cells (evC x) 30)
      have hX5 := hX4.alloc (.cells (evC x) 30)
      have hY5 := hY4.alloc (.cells (evC x) 30)
      have hZ5 := Has.new w4 (evC x) 30
      go_upto_region 8 with fail
      generalize w4.alloc (.cells (evC x) 30) = w5 at *
      have e0 : w5.cell? ⟨w.heap.size, 0, none⟩ = some (.int .i64 x.k) := hX5.cell rfl
      have e1 : w5.cell? ⟨w.heap.size, 1, none⟩ = some (.int .i64 x.t) := hX5.cell rfl
      have e2 : w5.cell? ⟨w.heap.size, 2, none⟩ = some (.int .i64 x.o) := hX5.cell rfl
      have f0 : w5.cell? ⟨w.heap.size + 1, 0, none⟩ = some (.int .i64 y.k) := hY5.cell rfl
      have f1 : w5.cell? ⟨w.heap.size + 1, 1, none⟩ = some (.int .i64 y.t) := hY5.cell rfl
      have f2 : w5.cell? ⟨w.heap.size + 1, 2, none⟩ = some (.int .i64 y.o) := hY5.cell rfl
      have g0 : w5.cell? ⟨w4.heap.size, 0, none⟩ = some (.int .i64 x.k) := hZ5.cell rfl
      have g1 : w5.cell? ⟨w4.heap.size, 1, none⟩ = some (.int .i64 x.t) := hZ5.cell rfl
      have g2 : w5.cell? ⟨w4.heap.size, 2, none⟩ = some (.int .i64 x.o) := hZ5.cell rfl
      have hs : ((lineB x).toList == (lineB y).toList) = decide (x = y) := by
        rw [strEqT]
        exact decide_eq_decide.2 ⟨fun h => line_inj hqx hqy h, fun h => by rw [h]⟩
      have hx3 : x = y ↔ x.k = y.k ∧ x.t = y.t ∧ x.o = y.o := ⟨fun h => by rw [h]; exact ⟨rfl, rfl, rfl⟩, fun h => by
        obtain ⟨a, b, c⟩ := x
        obtain ⟨a', b', c'⟩ := y
        obtain ⟨rfl, rfl, rfl⟩ := h
        rfl⟩
      go_wp2
      all_goals first
        | (go_ret; exact ⟨rfl, hk5⟩)
        | (exfalso; clear hX4 hY4 hX5 hY5 hZ5 hk4 hk5 e0 e1 e2 f0 f1 f2 g0 g1 g2 hm hmlt; trace_state; simp_all; done)
end Go.Proofs.YtmeidjhojanogaaDoor
