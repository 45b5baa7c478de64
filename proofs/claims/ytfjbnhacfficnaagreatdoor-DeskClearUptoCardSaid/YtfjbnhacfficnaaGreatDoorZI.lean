/- Joined texts. -/
import Derived.Test.YtfjbnhacfficnaaGreatDoorFsB
import Derived.Deep.RegionLaw
import Derived.Deep.DeepCutAuto
import Derived.Test.YtfjbnhacfficnaaGreatDoorFsC
import Derived.Test.YtfjbnhacfficnaaGreatDoorFsD

/- The fast detector's cell: a read. -/
namespace Go.Proofs.YtfjbnhacfficnaaGreatDoor
open Go.RowKit

set_option maxRecDepth 100000 in
set_option maxHeartbeats 8000000 in
theorem reads_many (x : Fc) (t : Nat) (c : Nat → Int) (b : Nat) (w : World) (h : Has w b (fcC x) 181) (hm : x.many = true) (hwt : x.wt < 6) (ht : t < 6) :
    Calls Tryz.prog 116 #[.pointer (some ⟨b, 0, none⟩), epV t (c t), clkV c] w fun r w' => r = .returned (.int .i64 (if x.seen c then 0 else 2)) ∧ CTook w w' b { x with rc := setC x.rc t (c t) } := by
  have he := fun w => eq_many x.rc t (c t) w
  have hal := fun w => alsoMany x.rc c t (c t) w ht
  have hsn := fun w => seen_ok x.wn c x.wt w hwt
  have hmk := fun v w => (method_many v w).2
  have has := assert_many
  have hS : x.seen c = decide (x.wn ≤ c x.wt) := rfl
  rw [← hS] at hsn
  clear hS
  generalize x.seen c = q1 at *
  have hR : rdI x = manyI x.rc := by simp [rdI, hm]
  have HT := Lib.hid (show fcC { x with rc := setC x.rc t (c t) } = #[.int .i64 (x.wt : Int), .int .i64 x.wn, manyI (setC x.rc t (c t)), .int .i64 x.slow] by simp only [fcC, rdI, hm]; rfl)
  rw [show fcC x = #[.int .i64 (x.wt : Int), .int .i64 x.wn, manyI x.rc, .int .i64 x.slow] by simp only [fcC, hR]] at h
  clear hm hR
  generalize x.wt = wt at *
  generalize x.wn = wn at *
  generalize x.slow = sl at *
  generalize x.rc = rc at *
  have h1 := (h.alloc (.cells (epC t (c t)) 177)).alloc (.cells (clkC c) 87)
  have hN := (Has.new w (epC t (c t)) 177).alloc (.cells (clkC c) 87)
  have hc := (Has.new (w.alloc (.cells (epC t (c t)) 177)) (clkC c) 87).at (c := w.heap.size + 1) (by simp)
  have hb : Below w.heap.size w ((w.alloc (.cells (epC t (c t)) 177)).alloc (.cells (clkC c) 87)) := ((Below.refl _ _).alloc (by simp) _).alloc (by simp) _
  have hlt := h.lt
  have n0 : b ≠ w.heap.size := by omega
  have n1 : b ≠ w.heap.size + 1 := by omega
  go_enter Tryz.func116, Tryz.ntmps116
  go_wp2_with fail
  generalize (w.alloc (.cells (epC t (c t)) 177)).alloc (.cells (clkC c) 87) = w1 at *
  have f2 : w1.cell? ⟨b, 2, none⟩ = some (manyI rc) := h1.cell rfl
  have e0 : w1.cell? ⟨w.heap.size, 0, none⟩ = some (.int .i64 t) := hN.cell rfl
  have e1 : w1.cell? ⟨w.heap.size, 1, none⟩ = some (.int .i64 (c t)) := hN.cell rfl
  go_quiet (fail)
  go_wp2_with fail
  clear f2 e0 e1 he
  replace h1 := (h1.drewN nq).drew
  replace hN := (hN.drewN nq).drew
  replace hc := (hc.drewN nq).drew
  replace hb := (below_drewN hb nq).drew
  go_region_held3 (fun W => (Has W b #[.int .i64 (wt : Int), .int .i64 wn, manyI rc, .int .i64 sl] 181 ∧ Has W w.heap.size (epC t (c t)) 177 ∧ Has W (w.heap.size + 1) (clkC c) 87 ∧ Below w.heap.size w W) ∧ (W.cell? ⟨b, 0, none⟩ = some (.int .i64 wt) ∧ W.cell? ⟨b, 1, none⟩ = some (.int .i64 wn)) ∧ BoxAt W (w.heap.size + 1) c)
    (first | exact ⟨⟨h1, hN, hc, hb⟩, ⟨h1.cell rfl, h1.cell rfl⟩, hc.clk⟩ | exact ⟨⟨j1, jN, jc, jb⟩, ⟨j1.cell rfl, j1.cell rfl⟩, jc.clk⟩)
    (first | (go_simp; go_at_call 136; refine (hsn _).mono ?_; rintro r w6 ⟨rfl, hk6⟩; have j1 := h1.below hk6 h1.lt; have jN := hN.below hk6 hN.lt; have jc := hc.below hk6 hc.lt; have jb := hb.trans (hk6.mono hb.size)))
  all_goals
    clear hsn hk6
    cases q1
    all_goals
      have f2 : w6.cell? ⟨b, 2, none⟩ = some (manyI rc) := j1.cell rfl
      go_wp2_with fail
      clear f2 h1 hN hc hb
      have h1 := j1.alloc (.cells (clkC rc) 237)
      have hN := jN.alloc (.cells (clkC rc) 237)
      have hc := jc.alloc (.cells (clkC rc) 237)
      have hb := jb.alloc jb.size (.cells (clkC rc) 237)
      clear j1 jN jc jb
      generalize w6.alloc (.cells (clkC rc) 237) = w7 at *
      have f2 : w7.cell? ⟨b, 2, none⟩ = some (manyI rc) := h1.cell rfl
      have e0 : w7.cell? ⟨w.heap.size, 0, none⟩ = some (.int .i64 t) := hN.cell rfl
      have e1 : w7.cell? ⟨w.heap.size, 1, none⟩ = some (.int .i64 (c t)) := hN.cell rfl
      obtain ⟨c0, c1, c2, c3, c4, c5⟩ := hc.clk
      go_cut [41] (fun p wx => p = manyI (setC rc t (c t)) ∧ Has wx b #[.int .i64 (wt : Int), .int .i64 wn, manyI (setC rc t (c t)), .int .i64 sl] 181 ∧ w.grownBy wx (some b))
      case first =>
        go_region_law (first | (go_simp; go_at_call 187; refine (hal _).mono ?_; rintro r w8 ⟨rfl, hk⟩; have p1 := h1.drew.below hk h1.lt; have pb := hb.drew.trans (hk.mono hb.size); have f2' : w8.cell? ⟨b, 2, none⟩ = some (manyI rc) := p1.cell rfl; have g2 := p1.free 2))
        all_goals
          have p2 := (p1.setCell 2 (manyI (setC rc t (c t)))).to (ds := #[.int .i64 (wt : Int), .int .i64 wn, manyI (setC rc t (c t)), .int .i64 sl]) rfl
          have pg := grown_set (a := ⟨b, 2, none⟩) (grown_of (b := b) pb) rfl (manyI (setC rc t (c t)))
          go_wp2
          go_meet
          exact ⟨rfl, p2, pg⟩
      case rest =>
        obtain ⟨rfl, p2, pg⟩ := hcut
        clear f2 e0 e1 c0 c1 c2 c3 c4 c5 h1 hN hc hb hal
        have f2 : wc.cell? ⟨b, 2, none⟩ = some (manyI (setC rc t (c t))) := p2.cell rfl
        have f3 : wc.cell? ⟨b, 3, none⟩ = some (.int .i64 sl) := p2.cell rfl
        have g3 := p2.free 3
        have hbl := p2.lt
        go_wp2
        go_ret
        refine ⟨rfl, ⟨?_, ?_⟩⟩
        · rw [HT.out]
          exact p2.alloc _
        · exact pg.trans_below ((Below.refl _ _).alloc (Nat.le_refl _) _)

end Go.Proofs.YtfjbnhacfficnaaGreatDoor

/- Contract of the fast detector's Access. -/
namespace Go.Proofs.YtfjbnhacfficnaaGreatDoor
open Go.RowKit

/-- What a cell's numbers keep to. -/
structure FcOk (x : Fc) (m : Int) : Prop where
  wt : x.wt < 6
  rt : x.rt < 6
  slow : 0 ≤ x.slow ∧ x.slow ≤ m
theorem reads_any (x : Fc) (t : Nat) (c : Nat → Int) (b : Nat) (w : World) (h : Has w b (fcC x) 181) (hx : FcOk x 1000) (ht : t < 6) :
    Calls Tryz.prog 116 #[.pointer (some ⟨b, 0, none⟩), epV t (c t), clkV c] w fun r w' => r = .returned (.int .i64 (x.read t c).2) ∧ CTook w w' b (x.read t c).1 := by
  cases hm : x.many
  · by_cases hs : x.rt = t ∧ x.rn = c t
    · have he : x.read t c = (x, 0) := by rw [Fc.read, if_pos ⟨hm, hs⟩]
      rw [he]
      exact reads_same x t (c t) c b w h hm hs
    · have he : x.read t c = (if decide (x.rn ≤ c x.rt) then { x with rt := t, rn := c t } else { x with many := true, rc := setC (setC (fun _ => 0) x.rt x.rn) t (c t), slow := x.slow + 1 }, if x.seen c then 0 else 2) := by
        rw [Fc.read, if_neg (fun hh => hs hh.2), hm]; rfl
      rw [he]
      cases hq : decide (x.rn ≤ c x.rt)
      · exact reads_slow x t c b w h hm hx.rt hs hq hx.slow hx.wt ht
      · exact reads_one x t c b w h hm hx.rt hs hq hx.wt ht
  · have he : x.read t c = ({ x with rc := setC x.rc t (c t) }, if x.seen c then 0 else 2) := by
      rw [Fc.read, if_neg (fun hh => by rw [hm] at hh; cases hh.1), if_pos hm]
    rw [he]
    exact reads_many x t c b w h hm hx.wt ht
theorem writes_any (x : Fc) (t : Nat) (c : Nat → Int) (b : Nat) (w : World) (h : Has w b (fcC x) 181) (hx : FcOk x 1000) :
    Calls Tryz.prog 117 #[.pointer (some ⟨b, 0, none⟩), epV t (c t), clkV c] w fun r w' => r = .returned (.int .i64 (x.write t c).2) ∧ CTook w w' b (x.write t c).1 := by
  by_cases hs : x.wt = t ∧ x.wn = c t
  · have he : x.write t c = (x, 0) := by rw [Fc.write, if_pos hs]
    rw [he]
    exact writes_same x t (c t) c b w h hs
  · cases hm : x.many
    · have he : x.write t c = ({ x with wt := t, wn := c t }, if x.seen c then (if x.known c then 0 else 3) else 1) := by
        rw [Fc.write, if_neg hs, if_neg (by rw [hm]; decide)]
      rw [he]
      exact writes_one x t c b w h hm hx.rt hx.wt hs
    · have he : x.write t c = ({ x with wt := t, wn := c t, many := false, rt := 0, rn := 0 }, if x.seen c then (if x.known c then 0 else 3) else 1) := by
        rw [Fc.write, if_neg hs, if_pos hm]
      rw [he]
      exact writes_many x t c b w h hm hx.wt hs

set_option maxRecDepth 100000 in
set_option maxHeartbeats 2000000 in
theorem faccess_any (x : Fc) (K : Int) (hK : K = 1 ∨ K = 2) (t o : Nat) (c : Nat → Int) (b : Nat) (w : World) (h : Has w b (fcC x) 181) (hx : FcOk x 1000) (ht : t < 6) :
    Calls Tryz.prog 94 #[.pointer (some ⟨b, 0, none⟩), evV ⟨K, t, o⟩, clkV c] w fun r w' => r = .returned (.int .i64 (x.acc ⟨K, t, o⟩ c).2) ∧ CTook w w' b (x.acc ⟨K, t, o⟩ c).1 := by
  have hb : Below w.heap.size w ((w.alloc (.cells (evC ⟨K, t, o⟩) 55)).alloc (.cells (clkC c) 87)) := ((Below.refl _ _).alloc (by simp) _).alloc (by simp) _
  have h1 := (h.alloc (.cells (evC ⟨K, t, o⟩) 55)).alloc (.cells (clkC c) 87)
  have hN := (Has.new w (evC ⟨K, t, o⟩) 55).alloc (.cells (clkC c) 87)
  have hc := (Has.new (w.alloc (.cells (evC ⟨K, t, o⟩) 55)) (clkC c) 87).at (c := w.heap.size + 1) (by simp)
  go_enter Tryz.func94, Tryz.ntmps94
  go_wp2_with fail
  generalize (w.alloc (.cells (evC ⟨K, t, o⟩) 55)).alloc (.cells (clkC c) 87) = w1 at *
  refine (of_ok c t _ ht).mono ?_
  rintro r w2 ⟨rfl, hk⟩
  replace h1 := h1.below hk h1.lt
  replace hN := hN.below hk hN.lt
  replace hc := hc.below hk hc.lt
  replace hb := hb.trans (hk.mono hb.size)
  clear hk
  have e0 : w2.cell? ⟨w.heap.size, 0, none⟩ = some (.int .i64 K) := hN.cell rfl
  obtain ⟨c0, c1, c2, c3, c4, c5⟩ := hc.clk
  have hNl := hN.lt
  have hcl := hc.lt
  have h3 := h1.alloc (.cells (epC t (c t)) 177)
  have hb3 := hb.alloc hb.size (.cells (epC t (c t)) 177)
  rcases hK with rfl | rfl
  · have he : x.acc ⟨1, t, o⟩ c = x.read t c := by simp [Fc.acc]
    have HE := Lib.hid he
    clear he
    go_wp2_with fail
    refine (reads_any x t c b _ h3 hx ht).mono ?_
    rintro r w4 ⟨rfl, ht4⟩
    go_wp2
    go_ret
    rw [HE.out]
    exact ⟨rfl, ⟨ht4.has, (grown_of hb3).trans ht4.grown⟩⟩
  · have he : x.acc ⟨2, t, o⟩ c = x.write t c := by simp [Fc.acc]
    have HE := Lib.hid he
    clear he
    go_wp2_with fail
    refine (writes_any x t c b _ h3 hx).mono ?_
    rintro r w4 ⟨rfl, ht4⟩
    go_wp2
    go_ret
    rw [HE.out]
    exact ⟨rfl, ⟨ht4.has, (grown_of hb3).trans ht4.grown⟩⟩
end Go.Proofs.YtfjbnhacfficnaaGreatDoor
