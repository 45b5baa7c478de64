/- The fast detector's cell: a new one; a write. -/
import Derived.Test.YtfjbnhacfficnaaGreatDoorFsA
namespace Go.Proofs.YtfjbnhacfficnaaGreatDoor
open Go.RowKit

def rdI (x : Fc) : Value := if x.many then manyI x.rc else oneI x.rt x.rn
abbrev fcC (x : Fc) : Array Value := #[.int .i64 (x.wt : Int), .int .i64 x.wn, rdI x, .int .i64 x.slow]
structure CTook (w w' : World) (b : Nat) (x : Fc) : Prop where
  has : Has w' b (fcC x) 181
  grown : w.grownBy w' (some b)
theorem newCell_any (w : World) : Calls Tryz.prog 93 #[] w fun r w' => r = .returned (.pointer (some ⟨w.heap.size, 0, none⟩)) ∧ Has w' w.heap.size (fcC Fc.first) 181 ∧ Below w.heap.size w w' := by
  go_enter Tryz.func93, Tryz.ntmps93
  go_wp2
  go_ret
  exact ⟨rfl, Has.new w _ _, (Below.refl _ _).alloc (Nat.le_refl _) _⟩

set_option maxRecDepth 100000 in
theorem writes_same (x : Fc) (t : Nat) (n : Int) (c : Nat → Int) (b : Nat) (w : World) (h : Has w b (fcC x) 181) (hs : x.wt = t ∧ x.wn = n) :
    Calls Tryz.prog 117 #[.pointer (some ⟨b, 0, none⟩), epV t n, clkV c] w fun r w' => r = .returned (.int .i64 0) ∧ CTook w w' b x := by
  have he := eq_ep x.wt t x.wn n
  rw [decide_eq_true hs] at he
  clear hs
  have h1 := (h.alloc (.cells (epC t n) 177)).alloc (.cells (clkC c) 87)
  have hb : Below w.heap.size w ((w.alloc (.cells (epC t n) 177)).alloc (.cells (clkC c) 87)) := ((Below.refl _ _).alloc (by simp) _).alloc (by simp) _
  have hN := (Has.new w (epC t n) 177).alloc (.cells (clkC c) 87)
  go_enter Tryz.func117, Tryz.ntmps117
  go_wp2_with fail
  generalize (w.alloc (.cells (epC t n) 177)).alloc (.cells (clkC c) 87) = w1 at *
  have f0 : w1.cell? ⟨b, 0, none⟩ = some (.int .i64 x.wt) := h1.cell rfl
  have f1 : w1.cell? ⟨b, 1, none⟩ = some (.int .i64 x.wn) := h1.cell rfl
  have e0 : w1.cell? ⟨w.heap.size, 0, none⟩ = some (.int .i64 t) := hN.cell rfl
  have e1 : w1.cell? ⟨w.heap.size, 1, none⟩ = some (.int .i64 n) := hN.cell rfl
  go_quiet (fail)
  go_wp2
  go_ret
  exact ⟨rfl, ⟨h1.drewN _, grown_of (below_drewN hb _)⟩⟩

set_option maxRecDepth 100000 in
set_option maxHeartbeats 8000000 in
theorem writes_one (x : Fc) (t : Nat) (c : Nat → Int) (b : Nat) (w : World) (h : Has w b (fcC x) 181) (hm : x.many = false) (hrt : x.rt < 6) (hwt : x.wt < 6) (hs : ¬ (x.wt = t ∧ x.wn = c t)) :
    Calls Tryz.prog 117 #[.pointer (some ⟨b, 0, none⟩), epV t (c t), clkV c] w fun r w' => r = .returned (.int .i64 (if x.seen c then (if x.known c then 0 else 3) else 1)) ∧ CTook w w' b { x with wt := t, wn := c t } := by
  have he := eq_ep x.wt t x.wn (c t)
  rw [decide_eq_false hs] at he
  clear hs
  have hsn := fun w => seen_ok x.wn c x.wt w hwt
  have hmk := fun v w => (method_one v w).1
  have has := assert_one
  have hkn := fun w => knownOne x.rt x.rn c w hrt
  have hK : x.known c = decide (x.rn ≤ c x.rt) := by simp [Fc.known, hm]
  have hS : x.seen c = decide (x.wn ≤ c x.wt) := rfl
  rw [← hK] at hkn
  rw [← hS] at hsn
  clear hK hS
  generalize x.known c = q2 at *
  generalize x.seen c = q1 at *
  have hR : rdI x = oneI x.rt x.rn := by simp [rdI, hm]
  have HT := Lib.hid (show fcC { x with wt := t, wn := c t } = #[.int .i64 (t : Int), .int .i64 (c t), oneI x.rt x.rn, .int .i64 x.slow] by simp only [fcC]; rw [← hR]; rfl)
  rw [show fcC x = #[.int .i64 (x.wt : Int), .int .i64 x.wn, oneI x.rt x.rn, .int .i64 x.slow] by simp only [fcC, hR]] at h
  clear hm hR
  generalize x.wt = wt at *
  generalize x.wn = wn at *
  generalize x.slow = sl at *
  generalize x.rt = rt at *
  generalize x.rn = rn at *
  have h1 := (h.alloc (.cells (epC t (c t)) 177)).alloc (.cells (clkC c) 87)
  have hN := (Has.new w (epC t (c t)) 177).alloc (.cells (clkC c) 87)
  have hc := (Has.new (w.alloc (.cells (epC t (c t)) 177)) (clkC c) 87).at (c := w.heap.size + 1) (by simp)
  have hb : Below w.heap.size w ((w.alloc (.cells (epC t (c t)) 177)).alloc (.cells (clkC c) 87)) := ((Below.refl _ _).alloc (by simp) _).alloc (by simp) _
  have hlt := h.lt
  have n0 : b ≠ w.heap.size := by omega
  have n1 : b ≠ w.heap.size + 1 := by omega
  go_enter Tryz.func117, Tryz.ntmps117
  go_wp2_with fail
  generalize (w.alloc (.cells (epC t (c t)) 177)).alloc (.cells (clkC c) 87) = w1 at *
  have f0 : w1.cell? ⟨b, 0, none⟩ = some (.int .i64 wt) := h1.cell rfl
  have f1 : w1.cell? ⟨b, 1, none⟩ = some (.int .i64 wn) := h1.cell rfl
  have e0 : w1.cell? ⟨w.heap.size, 0, none⟩ = some (.int .i64 t) := hN.cell rfl
  have e1 : w1.cell? ⟨w.heap.size, 1, none⟩ = some (.int .i64 (c t)) := hN.cell rfl
  go_quiet (fail)
  go_wp2_with fail
  clear f0 f1 e0 e1 he
  replace h1 := (h1.drewN nq).drew
  replace hN := (hN.drewN nq).drew
  replace hc := (hc.drewN nq).drew
  replace hb := (below_drewN hb nq).drew
  go_region_held3 (fun W => (Has W b #[.int .i64 (wt : Int), .int .i64 wn, oneI rt rn, .int .i64 sl] 181 ∧ Has W w.heap.size (epC t (c t)) 177 ∧ Has W (w.heap.size + 1) (clkC c) 87 ∧ Below w.heap.size w W) ∧ (W.cell? ⟨b, 0, none⟩ = some (.int .i64 wt) ∧ W.cell? ⟨b, 1, none⟩ = some (.int .i64 wn)) ∧ BoxAt W (w.heap.size + 1) c)
    (first | exact ⟨⟨h1, hN, hc, hb⟩, ⟨h1.cell rfl, h1.cell rfl⟩, hc.clk⟩ | exact ⟨⟨j1, jN, jc, jb⟩, ⟨j1.cell rfl, j1.cell rfl⟩, jc.clk⟩)
    (first | (go_simp; go_at_call 136; refine (hsn _).mono ?_; rintro r w6 ⟨rfl, hk6⟩; have j1 := h1.below hk6 h1.lt; have jN := hN.below hk6 hN.lt; have jc := hc.below hk6 hc.lt; have jb := hb.trans (hk6.mono hb.size)))
  all_goals
    clear h1 hN hc hb hsn
    cases q1
    · have f0 : w6.cell? ⟨b, 0, none⟩ = some (.int .i64 wt) := j1.cell rfl
      have f1 : w6.cell? ⟨b, 1, none⟩ = some (.int .i64 wn) := j1.cell rfl
      have f2 : w6.cell? ⟨b, 2, none⟩ = some (oneI rt rn) := j1.cell rfl
      have g0 := j1.free 0
      have g1 := j1.free 1
      have g2 := j1.free 2
      have e0 : w6.cell? ⟨w.heap.size, 0, none⟩ = some (.int .i64 t) := jN.cell rfl
      have e1 : w6.cell? ⟨w.heap.size, 1, none⟩ = some (.int .i64 (c t)) := jN.cell rfl
      have hbl := j1.lt
      go_wp2
      go_ret
      refine ⟨rfl, ⟨?_, ?_⟩⟩
      · rw [HT.out]
        exact (((j1.setCell 0 (.int .i64 t)).setCell 1 (.int .i64 (c t))).alloc _).to (by simp)
      · exact (grown_set (a := ⟨b, 1, none⟩) (grown_set (a := ⟨b, 0, none⟩) (grown_of (b := b) jb) rfl (.int .i64 t)) rfl (.int .i64 (c t))).trans_below ((Below.refl _ _).alloc (Nat.le_refl _) _)
    · go_wp2_with fail
      have h1 := j1.drew
      have hN := jN.drew
      have hc := jc.drew
      have hb := jb.drew
      clear j1 jN jc jb hk6
      go_region_held3 (fun W => (Has W b #[.int .i64 (wt : Int), .int .i64 wn, oneI rt rn, .int .i64 sl] 181 ∧ Has W w.heap.size (epC t (c t)) 177 ∧ Has W (w.heap.size + 1) (clkC c) 87 ∧ Below w.heap.size w W) ∧ (W.cell? ⟨b, 2, none⟩ = some (oneI rt rn)) ∧ BoxAt W (w.heap.size + 1) c)
        (first | exact ⟨⟨h1, hN, hc, hb⟩, h1.cell rfl, hc.clk⟩ | exact ⟨⟨j1, jN, jc, jb⟩, j1.cell rfl, jc.clk⟩)
        (first | (go_simp; go_at_call 185; refine (hkn _).mono ?_; rintro r w8 ⟨rfl, hk6⟩; have j1 := h1.below hk6 h1.lt; have jN := hN.below hk6 hN.lt; have jc := hc.below hk6 hc.lt; have jb := hb.trans (hk6.mono hb.size)))
      all_goals
        clear h1 hN hc hb hkn hmk
        cases q2
        all_goals
          have f0 : w8.cell? ⟨b, 0, none⟩ = some (.int .i64 wt) := j1.cell rfl
          have f1 : w8.cell? ⟨b, 1, none⟩ = some (.int .i64 wn) := j1.cell rfl
          have f2 : w8.cell? ⟨b, 2, none⟩ = some (oneI rt rn) := j1.cell rfl
          have g0 := j1.free 0
          have g1 := j1.free 1
          have g2 := j1.free 2
          have e0 : w8.cell? ⟨w.heap.size, 0, none⟩ = some (.int .i64 t) := jN.cell rfl
          have e1 : w8.cell? ⟨w.heap.size, 1, none⟩ = some (.int .i64 (c t)) := jN.cell rfl
          have hbl := j1.lt
          go_wp2
          go_ret
          refine ⟨rfl, ⟨?_, ?_⟩⟩
          · rw [HT.out]
            exact (((j1.setCell 0 (.int .i64 t)).setCell 1 (.int .i64 (c t))).alloc _).to (by simp)
          · exact (grown_set (a := ⟨b, 1, none⟩) (grown_set (a := ⟨b, 0, none⟩) (grown_of (b := b) jb) rfl (.int .i64 t)) rfl (.int .i64 (c t))).trans_below ((Below.refl _ _).alloc (Nat.le_refl _) _)

set_option maxRecDepth 100000 in
set_option maxHeartbeats 8000000 in
theorem writes_many (x : Fc) (t : Nat) (c : Nat → Int) (b : Nat) (w : World) (h : Has w b (fcC x) 181) (hm : x.many = true) (hwt : x.wt < 6) (hs : ¬ (x.wt = t ∧ x.wn = c t)) :
    Calls Tryz.prog 117 #[.pointer (some ⟨b, 0, none⟩), epV t (c t), clkV c] w fun r w' => r = .returned (.int .i64 (if x.seen c then (if x.known c then 0 else 3) else 1)) ∧ CTook w w' b { x with wt := t, wn := c t, many := false, rt := 0, rn := 0 } := by
  have he := eq_ep x.wt t x.wn (c t)
  rw [decide_eq_false hs] at he
  clear hs
  have hsn := fun w => seen_ok x.wn c x.wt w hwt
  have hmk := fun v w => (method_many v w).1
  have has := assert_many
  have hkn := fun w => knownMany x.rc c w
  have hK : x.known c = cle x.rc c := by simp [Fc.known, hm]
  have hS : x.seen c = decide (x.wn ≤ c x.wt) := rfl
  rw [← hK] at hkn
  rw [← hS] at hsn
  clear hK hS
  generalize x.known c = q2 at *
  generalize x.seen c = q1 at *
  have hR : rdI x = manyI x.rc := by simp [rdI, hm]
  have HT := Lib.hid (show fcC { x with wt := t, wn := c t, many := false, rt := 0, rn := 0 } = #[.int .i64 (t : Int), .int .i64 (c t), oneI 0 0, .int .i64 x.slow] by simp only [fcC]; rfl)
  rw [show fcC x = #[.int .i64 (x.wt : Int), .int .i64 x.wn, manyI x.rc, .int .i64 x.slow] by simp only [fcC, hR]] at h
  clear hm hR
  generalize x.wt = wt at *
  generalize x.wn = wn at *
  generalize x.slow = sl at *
  generalize x.rc = rc at *
  have h1 := (h.alloc (.cells (epC t (c t)) 177)).alloc (.cells (clkC c) 87)
  have hN := (Has.new w (epC t (c t)) 177).alloc (.cells (clkC c) 87)
  have hc := (Has.new (w.alloc (.cells (epC t (c t)) 177)) (clkC c) 87).at (c := w.heap.size + 1) (by simp)
  have hb : Below w.heap.size w ((w.alloc (.cells (epC t (c t)) 177)).alloc (.cells (clkC c) 87)) := ((Below.refl _ _).alloc (by simp) _).alloc (by simp) _
  have hlt := h.lt
  have n0 : b ≠ w.heap.size := by omega
  have n1 : b ≠ w.heap.size + 1 := by omega
  go_enter Tryz.func117, Tryz.ntmps117
  go_wp2_with fail
  generalize (w.alloc (.cells (epC t (c t)) 177)).alloc (.cells (clkC c) 87) = w1 at *
  have f0 : w1.cell? ⟨b, 0, none⟩ = some (.int .i64 wt) := h1.cell rfl
  have f1 : w1.cell? ⟨b, 1, none⟩ = some (.int .i64 wn) := h1.cell rfl
  have e0 : w1.cell? ⟨w.heap.size, 0, none⟩ = some (.int .i64 t) := hN.cell rfl
  have e1 : w1.cell? ⟨w.heap.size, 1, none⟩ = some (.int .i64 (c t)) := hN.cell rfl
  go_quiet (fail)
  go_wp2_with fail
  clear f0 f1 e0 e1 he
  replace h1 := (h1.drewN nq).drew
  replace hN := (hN.drewN nq).drew
  replace hc := (hc.drewN nq).drew
  replace hb := (below_drewN hb nq).drew
  go_region_held3 (fun W => (Has W b #[.int .i64 (wt : Int), .int .i64 wn, manyI rc, .int .i64 sl] 181 ∧ Has W w.heap.size (epC t (c t)) 177 ∧ Has W (w.heap.size + 1) (clkC c) 87 ∧ Below w.heap.size w W) ∧ (W.cell? ⟨b, 0, none⟩ = some (.int .i64 wt) ∧ W.cell? ⟨b, 1, none⟩ = some (.int .i64 wn)) ∧ BoxAt W (w.heap.size + 1) c)
    (first | exact ⟨⟨h1, hN, hc, hb⟩, ⟨h1.cell rfl, h1.cell rfl⟩, hc.clk⟩ | exact ⟨⟨j1, jN, jc, jb⟩, ⟨j1.cell rfl, j1.cell rfl⟩, jc.clk⟩)
    (first | (go_simp; go_at_call 136; refine (hsn _).mono ?_; rintro r w6 ⟨rfl, hk6⟩; have j1 := h1.below hk6 h1.lt; have jN := hN.below hk6 hN.lt; have jc := hc.below hk6 hc.lt; have jb := hb.trans (hk6.mono hb.size)))
  all_goals
    clear h1 hN hc hb hsn
    cases q1
    · have f0 : w6.cell? ⟨b, 0, none⟩ = some (.int .i64 wt) := j1.cell rfl
      have f1 : w6.cell? ⟨b, 1, none⟩ = some (.int .i64 wn) := j1.cell rfl
      have f2 : w6.cell? ⟨b, 2, none⟩ = some (manyI rc) := j1.cell rfl
      have g0 := j1.free 0
      have g1 := j1.free 1
      have g2 := j1.free 2
      have e0 : w6.cell? ⟨w.heap.size, 0, none⟩ = some (.int .i64 t) := jN.cell rfl
      have e1 : w6.cell? ⟨w.heap.size, 1, none⟩ = some (.int .i64 (c t)) := jN.cell rfl
      have hbl := j1.lt
      go_wp2
      go_ret
      refine ⟨rfl, ⟨?_, ?_⟩⟩
      · rw [HT.out]
        exact ((((j1.setCell 0 (.int .i64 t)).setCell 1 (.int .i64 (c t))).setCell 2 (.iface 215 (.agg #[.int .i64 0, .int .i64 0]))).alloc _).to rfl
      · exact (grown_set (a := ⟨b, 2, none⟩) (grown_set (a := ⟨b, 1, none⟩) (grown_set (a := ⟨b, 0, none⟩) (grown_of (b := b) jb) rfl (.int .i64 t)) rfl (.int .i64 (c t))) rfl (.iface 215 (.agg #[.int .i64 0, .int .i64 0]))).trans_below ((Below.refl _ _).alloc (Nat.le_refl _) _)
    · go_wp2_with fail
      have h1 := j1.drew
      have hN := jN.drew
      have hc := jc.drew
      have hb := jb.drew
      clear j1 jN jc jb hk6
      go_region_held3 (fun W => (Has W b #[.int .i64 (wt : Int), .int .i64 wn, manyI rc, .int .i64 sl] 181 ∧ Has W w.heap.size (epC t (c t)) 177 ∧ Has W (w.heap.size + 1) (clkC c) 87 ∧ Below w.heap.size w W) ∧ (W.cell? ⟨b, 2, none⟩ = some (manyI rc)) ∧ BoxAt W (w.heap.size + 1) c)
        (first | exact ⟨⟨h1, hN, hc, hb⟩, h1.cell rfl, hc.clk⟩ | exact ⟨⟨j1, jN, jc, jb⟩, j1.cell rfl, jc.clk⟩)
        (first | (go_simp; go_at_call 188; refine (hkn _).mono ?_; rintro r w8 ⟨rfl, hk6⟩; have j1 := h1.below hk6 h1.lt; have jN := hN.below hk6 hN.lt; have jc := hc.below hk6 hc.lt; have jb := hb.trans (hk6.mono hb.size)))
      all_goals
        clear h1 hN hc hb hkn hmk
        cases q2
        all_goals
          have f0 : w8.cell? ⟨b, 0, none⟩ = some (.int .i64 wt) := j1.cell rfl
          have f1 : w8.cell? ⟨b, 1, none⟩ = some (.int .i64 wn) := j1.cell rfl
          have f2 : w8.cell? ⟨b, 2, none⟩ = some (manyI rc) := j1.cell rfl
          have g0 := j1.free 0
          have g1 := j1.free 1
          have g2 := j1.free 2
          have e0 : w8.cell? ⟨w.heap.size, 0, none⟩ = some (.int .i64 t) := jN.cell rfl
          have e1 : w8.cell? ⟨w.heap.size, 1, none⟩ = some (.int .i64 (c t)) := jN.cell rfl
          have hbl := j1.lt
          go_wp2
          go_ret
          refine ⟨rfl, ⟨?_, ?_⟩⟩
          · rw [HT.out]
            exact ((((j1.setCell 0 (.int .i64 t)).setCell 1 (.int .i64 (c t))).setCell 2 (.iface 215 (.agg #[.int .i64 0, .int .i64 0]))).alloc _).to rfl
          · exact (grown_set (a := ⟨b, 2, none⟩) (grown_set (a := ⟨b, 1, none⟩) (grown_set (a := ⟨b, 0, none⟩) (grown_of (b := b) jb) rfl (.int .i64 t)) rfl (.int .i64 (c t))) rfl (.iface 215 (.agg #[.int .i64 0, .int .i64 0]))).trans_below ((Below.refl _ _).alloc (Nat.le_refl _) _)

end Go.Proofs.YtfjbnhacfficnaaGreatDoor
