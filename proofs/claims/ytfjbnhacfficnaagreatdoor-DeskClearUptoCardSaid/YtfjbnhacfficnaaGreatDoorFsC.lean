/- The fast detector's cell: a read. -/
import Derived.Test.YtfjbnhacfficnaaGreatDoorFsB
import Derived.Deep.RegionLaw
import Derived.Deep.DeepCutAuto
namespace Go.Proofs.YtfjbnhacfficnaaGreatDoor
open Go.RowKit

set_option maxRecDepth 100000 in
theorem reads_same (x : Fc) (t : Nat) (n : Int) (c : Nat → Int) (b : Nat) (w : World) (h : Has w b (fcC x) 181) (hm : x.many = false) (hs : x.rt = t ∧ x.rn = n) :
    Calls Tryz.prog 116 #[.pointer (some ⟨b, 0, none⟩), epV t n, clkV c] w fun r w' => r = .returned (.int .i64 0) ∧ CTook w w' b x := by
  have he := eq_one x.rt t x.rn n
  rw [decide_eq_true hs] at he
  have hR : rdI x = oneI x.rt x.rn := by simp [rdI, hm]
  clear hs
  have h1 := (h.alloc (.cells (epC t n) 177)).alloc (.cells (clkC c) 87)
  have hb : Below w.heap.size w ((w.alloc (.cells (epC t n) 177)).alloc (.cells (clkC c) 87)) := ((Below.refl _ _).alloc (by simp) _).alloc (by simp) _
  have hN := (Has.new w (epC t n) 177).alloc (.cells (clkC c) 87)
  go_enter Tryz.func116, Tryz.ntmps116
  go_wp2_with fail
  generalize (w.alloc (.cells (epC t n) 177)).alloc (.cells (clkC c) 87) = w1 at *
  have f2 : w1.cell? ⟨b, 2, none⟩ = some (oneI x.rt x.rn) := by rw [← hR]; exact h1.cell rfl
  have e0 : w1.cell? ⟨w.heap.size, 0, none⟩ = some (.int .i64 t) := hN.cell rfl
  have e1 : w1.cell? ⟨w.heap.size, 1, none⟩ = some (.int .i64 n) := hN.cell rfl
  clear hR
  go_quiet (fail)
  go_wp2
  go_ret
  exact ⟨rfl, ⟨h1.drewN _, grown_of (below_drewN hb _)⟩⟩

set_option maxRecDepth 100000 in
set_option maxHeartbeats 8000000 in
theorem reads_one (x : Fc) (t : Nat) (c : Nat → Int) (b : Nat) (w : World) (h : Has w b (fcC x) 181) (hm : x.many = false) (hrt : x.rt < 6) (hs : ¬ (x.rt = t ∧ x.rn = c t)) (hkq : decide (x.rn ≤ c x.rt) = true) (hwt : x.wt < 6) (ht : t < 6) :
    Calls Tryz.prog 116 #[.pointer (some ⟨b, 0, none⟩), epV t (c t), clkV c] w fun r w' => r = .returned (.int .i64 (if x.seen c then 0 else 2)) ∧ CTook w w' b { x with rt := t, rn := c t } := by
  have he := eq_one x.rt t x.rn (c t)
  rw [decide_eq_false hs] at he
  clear hs
  have hal := fun w => alsoOne x.rt x.rn c t (c t) w hrt ht
  rw [hkq] at hal
  simp only [if_true] at hal
  clear hkq
  have hsn := fun w => seen_ok x.wn c x.wt w hwt
  have hmk := fun v w => (method_one v w).2
  have has := assert_one
  have hS : x.seen c = decide (x.wn ≤ c x.wt) := rfl
  rw [← hS] at hsn
  clear hS
  generalize x.seen c = q1 at *
  have hR : rdI x = oneI x.rt x.rn := by simp [rdI, hm]
  have HT := Lib.hid (show fcC { x with rt := t, rn := c t } = #[.int .i64 (x.wt : Int), .int .i64 x.wn, oneI t (c t), .int .i64 x.slow] by simp only [fcC, rdI, hm]; rfl)
  rw [show fcC x = #[.int .i64 (x.wt : Int), .int .i64 x.wn, oneI x.rt x.rn, .int .i64 x.slow] by simp only [fcC, hR]] at h
  clear hm hR
  generalize x.wt = wt at *
  generalize x.wn = wn at *
  generalize x.slow = sl at *
  generalize x.rt = rt at *
  generalize x.rn = rn at *
  have h1 := (h.alloc (.cells (epC t (c t)) 177)).alloc (.cells (clkC c) 87)
  have hN := (Has.new w (epC t (c t)) 177).alloc (.cells (clkC c) 87)
  have hc := (Has.new (w.alloc (.cells (epC t (c t)) 177)) (clkC c) 87).at (c := w.heap.size + 1) (by simp)
  have hb : Below w.heap.size w ((w.alloc (.cells (epC t (c t)) 177)).alloc (.cells (clkC c) 87)) := ((Below.refl _ _).alloc (by simp) _).alloc (by simp) _
  have hlt := h.lt
  have n0 : b ≠ w.heap.size := by omega
  have n1 : b ≠ w.heap.size + 1 := by omega
  go_enter Tryz.func116, Tryz.ntmps116
  go_wp2_with fail
  generalize (w.alloc (.cells (epC t (c t)) 177)).alloc (.cells (clkC c) 87) = w1 at *
  have f2 : w1.cell? ⟨b, 2, none⟩ = some (oneI rt rn) := h1.cell rfl
  have e0 : w1.cell? ⟨w.heap.size, 0, none⟩ = some (.int .i64 t) := hN.cell rfl
  have e1 : w1.cell? ⟨w.heap.size, 1, none⟩ = some (.int .i64 (c t)) := hN.cell rfl
  go_quiet (fail)
  go_wp2_with fail
  clear f2 e0 e1 he
  replace h1 := (h1.drewN nq).drew
  replace hN := (hN.drewN nq).drew
  replace hc := (hc.drewN nq).drew
  replace hb := (below_drewN hb nq).drew
  go_region_held3 (fun W => (Has W b #[.int .i64 (wt : Int), .int .i64 wn, oneI rt rn, .int .i64 sl] 181 ∧ Has W w.heap.size (epC t (c t)) 177 ∧ Has W (w.heap.size + 1) (clkC c) 87 ∧ Below w.heap.size w W) ∧ (W.cell? ⟨b, 0, none⟩ = some (.int .i64 wt) ∧ W.cell? ⟨b, 1, none⟩ = some (.int .i64 wn)) ∧ BoxAt W (w.heap.size + 1) c)
    (first | exact ⟨⟨h1, hN, hc, hb⟩, ⟨h1.cell rfl, h1.cell rfl⟩, hc.clk⟩ | exact ⟨⟨j1, jN, jc, jb⟩, ⟨j1.cell rfl, j1.cell rfl⟩, jc.clk⟩)
    (first | (go_simp; go_at_call 136; refine (hsn _).mono ?_; rintro r w6 ⟨rfl, hk6⟩; have j1 := h1.below hk6 h1.lt; have jN := hN.below hk6 hN.lt; have jc := hc.below hk6 hc.lt; have jb := hb.trans (hk6.mono hb.size)))
  all_goals
    clear hsn hk6
    cases q1
    all_goals
      have f2 : w6.cell? ⟨b, 2, none⟩ = some (oneI rt rn) := j1.cell rfl
      go_wp2_with fail
      clear f2 h1 hN hc hb
      have h1 := j1.alloc (.cells (clkC fun _ => 0) 237)
      have hN := jN.alloc (.cells (clkC fun _ => 0) 237)
      have hc := jc.alloc (.cells (clkC fun _ => 0) 237)
      have hb := jb.alloc jb.size (.cells (clkC fun _ => 0) 237)
      clear j1 jN jc jb
      generalize w6.alloc (.cells (clkC fun _ => 0) 237) = w7 at *
      have f2 : w7.cell? ⟨b, 2, none⟩ = some (oneI rt rn) := h1.cell rfl
      have e0 : w7.cell? ⟨w.heap.size, 0, none⟩ = some (.int .i64 t) := hN.cell rfl
      have e1 : w7.cell? ⟨w.heap.size, 1, none⟩ = some (.int .i64 (c t)) := hN.cell rfl
      obtain ⟨c0, c1, c2, c3, c4, c5⟩ := hc.clk
      go_cut [41] (fun p wx => p = oneI t (c t) ∧ Has wx b #[.int .i64 (wt : Int), .int .i64 wn, oneI t (c t), .int .i64 sl] 181 ∧ w.grownBy wx (some b))
      case first =>
        go_region_law (first | (go_simp; go_at_call 184; refine (hal _).mono ?_; rintro r w8 ⟨rfl, hk⟩; have p1 := h1.drew.below hk h1.lt; have pb := hb.drew.trans (hk.mono hb.size); have f2' : w8.cell? ⟨b, 2, none⟩ = some (oneI rt rn) := p1.cell rfl; have g2 := p1.free 2))
        all_goals
          have p2 := (p1.setCell 2 (oneI t (c t))).to (ds := #[.int .i64 (wt : Int), .int .i64 wn, oneI t (c t), .int .i64 sl]) rfl
          have pg := grown_set (a := ⟨b, 2, none⟩) (grown_of (b := b) pb) rfl (oneI t (c t))
          go_wp2
          go_meet
          exact ⟨rfl, p2, pg⟩
      case rest =>
        obtain ⟨rfl, p2, pg⟩ := hcut
        clear f2 e0 e1 c0 c1 c2 c3 c4 c5 h1 hN hc hb hal
        have f2 : wc.cell? ⟨b, 2, none⟩ = some (oneI t (c t)) := p2.cell rfl
        have f3 : wc.cell? ⟨b, 3, none⟩ = some (.int .i64 sl) := p2.cell rfl
        have g3 := p2.free 3
        have hbl := p2.lt
        go_wp2
        go_ret
        refine ⟨rfl, ⟨?_, ?_⟩⟩
        · rw [HT.out]
          exact p2.alloc _
        · exact pg.trans_below ((Below.refl _ _).alloc (Nat.le_refl _) _)

end Go.Proofs.YtfjbnhacfficnaaGreatDoor
