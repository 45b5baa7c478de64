/- The full detector in memory: new clocks; an access. -/
import Derived.Test.YtfjbnhacfficnaaGreatDoorKp
import Derived.Test.YtfjbnhacfficnaaGreatDoorZEB
namespace Go.Proofs.YtfjbnhacfficnaaGreatDoor
open Go.RowKit

/-- The clocks at first, threads below k only. -/
def kF (k : Nat) : Kp := ⟨fun t τ => if t = τ ∧ t < k then 1 else 0, fun _ _ => 0, fun _ _ => 0⟩
theorem kF_succ (k : Nat) (i : Nat) (hi : i < 90) (hk : k < 6) : kpF (kF (k + 1)) i = if i = k * 6 + k then 1 else kpF (kF k) i := by
  unfold kpF kF
  simp only
  by_cases e : i < 36
  · rw [if_pos e, if_pos e]
    by_cases e2 : i = k * 6 + k
    · rw [if_pos e2, if_pos (by omega)]
    · rw [if_neg e2]
      by_cases e3 : i / 6 = i % 6 ∧ i / 6 < k
      · rw [if_pos e3, if_pos (by omega)]
      · rw [if_neg e3, if_neg (by omega)]
  · rw [if_neg e, if_neg e, if_neg (show ¬ i = k * 6 + k by omega)]
theorem kF_six (i : Nat) (hi : i < 90) : kpF (kF 6) i = kpF Fk.first.kp i := by
  unfold kpF kF Fk.first Fk.kp
  simp only
  split
  · split
    · rw [if_pos (by omega)]
    · rw [if_neg (by omega)]
  · rfl
theorem zero_clocks (w : World) : (zeroValue 172).run Tryz.prog w = .ok (.agg (kpC (kF 0))) w := by kernel_rfl
set_option maxRecDepth 100000 in
theorem newClocks_any (w : World) : Calls Tryz.prog 90 #[] w fun r w' => r = .returned (.pointer (some ⟨w.heap.size, 0, none⟩)) ∧ Has w' w.heap.size (kpC Fk.first.kp) 172 ∧ Below w.heap.size w w' := by
  have hz := zero_clocks
  go_enter Tryz.func90, Tryz.ntmps90
  go_wp2_with fail
  have h0 : Has (w.alloc (.cells (kpC (kF 0)) 172)) w.heap.size (kpC (kF 0)) 172 := Has.new w _ _
  have hb0 := (Below.refl w.heap.size w).alloc (Nat.le_refl _) (.cells (kpC (kF 0)) 172)
  go_loopw [2, 5] (fun _ i wr => ∃ k : Nat, k ≤ 6 ∧ i = .int .i64 k ∧ Has wr w.heap.size (kpC (kF k)) 172 ∧ Below w.heap.size w wr) (fun _ i _ => 6 - (intOf i).toNat)
  case atStart => exact ⟨0, Nat.zero_le _, rfl, h0, hb0⟩
  case round =>
    clear h0 hb0
    obtain ⟨k, hk, rfl, h1, hb⟩ := hrel
    by_cases hlt : k < 6
    · have i0 : (0 : Int) ≤ k := by omega
      have i6 : (k : Int) < 6 := by omega
      have d1 := h1.addI (k := k * 6 + k) (by omega)
      have d2 := h1.free (k * 6 + k)
      go_wp2
      go_roundw
      case rel => exact ⟨k + 1, by omega, by go_num, (h1.setCell (k * 6 + k) (.int .i64 1)).to (by rw [rowI_set]; exact rowI_congr fun i hi => (kF_succ k i hi hlt).symm), hb.setCell (Nat.le_refl _) _⟩
      case measure => (simp [intOf]; try omega)
    · obtain rfl : k = 6 := by omega
      replace h1 : Has wr w.heap.size (kpC Fk.first.kp) 172 := h1.to (rowI_congr kF_six)
      go_wp2
      go_ret
      exact ⟨rfl, h1, hb⟩

/-- The cells of eight variables: reads, writes. -/
def vrF (R W : Nat → Nat → Int) (i : Nat) : Int := if i % 12 < 6 then R (i / 12) (i % 12) else W (i / 12) (i % 12 - 6)
abbrev vrC (R W : Nat → Nat → Int) : Array Value := rowI 96 (vrF R W)
theorem vrF_rd (R W : Nat → Nat → Int) {x i : Nat} (hi : i < 6) : vrF R W (x * 12 + i) = R x i := by
  have h1 : (x * 12 + i) / 12 = x := by omega
  have h2 : (x * 12 + i) % 12 = i := by omega
  rw [vrF, h1, h2, if_pos hi]
theorem vrF_wr (R W : Nat → Nat → Int) {x i : Nat} (hi : i < 6) : vrF R W (x * 12 + 6 + i) = W x i := by
  have h1 : (x * 12 + 6 + i) / 12 = x := by omega
  have h2 : (x * 12 + 6 + i) % 12 = 6 + i := by omega
  rw [vrF, h1, h2, if_neg (by omega), Nat.add_sub_cancel_left]
def setV (F : Nat → Nat → Int) (x t : Nat) (n : Int) : Nat → Nat → Int := fun y τ => if y = x ∧ τ = t then n else F y τ
theorem vrF_setR (R W : Nat → Nat → Int) {x t : Nat} (ht : t < 6) (n : Int) (i : Nat) : vrF (setV R x t n) W i = if i = x * 12 + t then n else vrF R W i := by
  unfold vrF setV
  by_cases e : i = x * 12 + t
  · rw [if_pos e, if_pos (by omega), if_pos (by omega)]
  · rw [if_neg e]
    split
    · rw [if_neg (by omega)]
    · rfl
theorem vrF_setW (R W : Nat → Nat → Int) {x t : Nat} (ht : t < 6) (n : Int) (i : Nat) : vrF R (setV W x t n) i = if i = x * 12 + 6 + t then n else vrF R W i := by
  unfold vrF setV
  by_cases e : i = x * 12 + 6 + t
  · rw [if_pos e, if_neg (by omega), if_pos (by omega)]
  · rw [if_neg e]
    split
    · rfl
    · rw [if_neg (by omega)]
theorem Has.rd6 {w : World} {b : Nat} {R W : Nat → Nat → Int} {T : TypeId} (h : Has w b (vrC R W) T) {x : Nat} (hx : x < 8) :
    w.cell? ⟨b, x * 12, none⟩ = some (.int .i64 (R x 0)) ∧ w.cell? ⟨b, x * 12 + 1, none⟩ = some (.int .i64 (R x 1)) ∧ w.cell? ⟨b, x * 12 + 2, none⟩ = some (.int .i64 (R x 2)) ∧
    w.cell? ⟨b, x * 12 + 3, none⟩ = some (.int .i64 (R x 3)) ∧ w.cell? ⟨b, x * 12 + 4, none⟩ = some (.int .i64 (R x 4)) ∧ w.cell? ⟨b, x * 12 + 5, none⟩ = some (.int .i64 (R x 5)) := by
  refine ⟨?_, ?_, ?_, ?_, ?_, ?_⟩ <;> (rw [h.addI (by omega)]; (first | rw [vrF_rd R W (by omega)] | (have := vrF_rd R W (x := x) (show 0 < 6 by omega); rw [Nat.add_zero] at this; rw [this])))
theorem Has.wr6 {w : World} {b : Nat} {R W : Nat → Nat → Int} {T : TypeId} (h : Has w b (vrC R W) T) {x : Nat} (hx : x < 8) :
    w.cell? ⟨b, x * 12 + 6, none⟩ = some (.int .i64 (W x 0)) ∧ w.cell? ⟨b, x * 12 + 6 + 1, none⟩ = some (.int .i64 (W x 1)) ∧ w.cell? ⟨b, x * 12 + 6 + 2, none⟩ = some (.int .i64 (W x 2)) ∧
    w.cell? ⟨b, x * 12 + 6 + 3, none⟩ = some (.int .i64 (W x 3)) ∧ w.cell? ⟨b, x * 12 + 6 + 4, none⟩ = some (.int .i64 (W x 4)) ∧ w.cell? ⟨b, x * 12 + 6 + 5, none⟩ = some (.int .i64 (W x 5)) := by
  refine ⟨?_, ?_, ?_, ?_, ?_, ?_⟩ <;> (rw [h.addI (by omega)]; (first | rw [vrF_wr R W (by omega)] | (have := vrF_wr R W (x := x) (show 0 < 6 by omega); rw [Nat.add_zero] at this; rw [this])))
/-- What an access is flagged as. -/
def aKind (k : Int) (r w c : Nat → Int) : Int :=
  if k = 1 then (if cle w c then 0 else 2) else (if cle w c then (if cle r c then 0 else 3) else 1)
structure VTook (w w' : World) (b : Nat) (R W : Nat → Nat → Int) : Prop where
  has : Has w' b (vrC R W) 116
  grown : w.grownBy w' (some b)
abbrev Six6 (w : World) (b o : Nat) (f : Nat → Int) : Prop :=
  w.cell? ⟨b, o, none⟩ = some (.int .i64 (f 0)) ∧ w.cell? ⟨b, o + 1, none⟩ = some (.int .i64 (f 1)) ∧ w.cell? ⟨b, o + 2, none⟩ = some (.int .i64 (f 2)) ∧
    w.cell? ⟨b, o + 3, none⟩ = some (.int .i64 (f 3)) ∧ w.cell? ⟨b, o + 4, none⟩ = some (.int .i64 (f 4)) ∧ w.cell? ⟨b, o + 5, none⟩ = some (.int .i64 (f 5))

set_option maxRecDepth 100000 in
set_option maxHeartbeats 8000000 in
theorem access_read (R W : Nat → Nat → Int) (x t o : Nat) (c : Nat → Int) (b : Nat) (w : World) (h : Has w b (vrC R W) 116) (hx : x < 8) (ht : t < 6) :
    Calls Tryz.prog 92 #[.pointer (some ⟨b, x * 12, none⟩), evV ⟨1, t, o⟩, clkV c] w fun r w' => r = .returned (.int .i64 (aKind 1 (R x) (W x) c)) ∧ VTook w w' b (setV R x t (c t)) W := by
  have hK : aKind 1 (R x) (W x) c = if cle (W x) c then 0 else 2 := by simp [aKind]
  have hwi := within_any (W x) c
  obtain ⟨q, hq⟩ : ∃ q, cle (W x) c = q := ⟨_, rfl⟩
  rw [hq] at hK hwi
  have HK := Lib.hid hK
  clear hK hq
  have h1 := (h.alloc (.cells (evC ⟨1, t, o⟩) 55)).alloc (.cells (clkC c) 87)
  have h0 := (Has.new w (evC ⟨1, t, o⟩) 55).alloc (.cells (clkC c) 87)
  have hc := (Has.new (w.alloc (.cells (evC ⟨1, t, o⟩) 55)) (clkC c) 87).at (c := w.heap.size + 1) (by simp)
  have hb : Below w.heap.size w ((w.alloc (.cells (evC ⟨1, t, o⟩) 55)).alloc (.cells (clkC c) 87)) := ((Below.refl _ _).alloc (by simp) _).alloc (by simp) _
  have hlt := h.lt
  have i0 : (0 : Int) ≤ t := by omega
  have i6 : (t : Int) < 6 := by omega
  have n0 : b ≠ w.heap.size := by omega
  have n1 : b ≠ w.heap.size + 1 := by omega
  go_enter Tryz.func92, Tryz.ntmps92
  go_wp2_with fail
  generalize (w.alloc (.cells (evC ⟨1, t, o⟩) 55)).alloc (.cells (clkC c) 87) = w1 at *
  have h1d := h1.drew
  have h0d := h0.drew
  have hcd := hc.drew
  have hd := (Below.refl w1.heap.size w1).drew
  go_region_held3 (fun W5 => (Has W5 b (vrC R W) 116 ∧ Has W5 w.heap.size (evC ⟨1, t, o⟩) 55 ∧ Has W5 (w.heap.size + 1) (clkC c) 87 ∧ Below w1.heap.size w1 W5) ∧ Six6 W5 b (x * 12 + 6) (W x) ∧ BoxAt W5 (w.heap.size + 1) c)
    (first | exact ⟨⟨h1d, h0d, hcd, hd⟩, h1d.wr6 hx, hcd.clk⟩ | exact ⟨⟨j1, j0, jc, jd⟩, j1.wr6 hx, jc.clk⟩)
    (first | (go_at_call 114; refine (hwi _).mono ?_; rintro r w6 ⟨rfl, hk6⟩; have j1 := h1d.below hk6 h1d.lt; have j0 := h0d.below hk6 h0d.lt; have jc := hcd.below hk6 hcd.lt; have jd := hd.trans (hk6.mono hd.size)))
  all_goals
    have hg := grown_of (b := b) (hb.trans (jd.mono hb.size))
    clear h1d h0d hcd hd h1 h0 hc
    have f0 : w6.cell? ⟨w.heap.size, 0, none⟩ = some (.int .i64 1) := j0.cell rfl
    have f1 : w6.cell? ⟨w.heap.size, 1, none⟩ = some (.int .i64 (t : Int)) := j0.cell rfl
    have e1 : w6.cell? ⟨w.heap.size + 1, t, none⟩ = some (.int .i64 (c t)) := jc.cell (clkC_get c t ht)
    have d1 : w6.cell? ⟨b, x * 12 + t, none⟩ = some (.int .i64 (R x t)) := by rw [j1.addI (by omega), vrF_rd R W ht]
    have d2 := j1.free (x * 12 + t)
    cases q
    all_goals
      go_wp2_with fail
      go_region
      all_goals
        go_wp2
        go_ret
        rw [HK.out]
        refine ⟨rfl, ?_, (grown_set (a := ⟨b, x * 12 + t, none⟩) hg rfl (.int .i64 (c t))).drewG⟩
        exact ((j1.setCell (x * 12 + t) (.int .i64 (c t))).drew).to (by rw [rowI_set]; exact rowI_congr fun i hi => (vrF_setR R W ht _ i).symm)

set_option maxRecDepth 100000 in
set_option maxHeartbeats 8000000 in
theorem access_write (R W : Nat → Nat → Int) (x t o : Nat) (c : Nat → Int) (b : Nat) (w : World) (h : Has w b (vrC R W) 116) (hx : x < 8) (ht : t < 6) :
    Calls Tryz.prog 92 #[.pointer (some ⟨b, x * 12, none⟩), evV ⟨2, t, o⟩, clkV c] w fun r w' => r = .returned (.int .i64 (aKind 2 (R x) (W x) c)) ∧ VTook w w' b R (setV W x t (c t)) := by
  have hK : aKind 2 (R x) (W x) c = if cle (W x) c then (if cle (R x) c then 0 else 3) else 1 := by simp [aKind]
  have hwi := within_any (W x) c
  have hwr := within_any (R x) c
  obtain ⟨q, hq⟩ : ∃ q, cle (W x) c = q := ⟨_, rfl⟩
  obtain ⟨q2, hq2⟩ : ∃ q, cle (R x) c = q := ⟨_, rfl⟩
  rw [hq] at hK hwi
  rw [hq2] at hK hwr
  have HK := Lib.hid hK
  clear hK hq hq2
  have h1 := (h.alloc (.cells (evC ⟨2, t, o⟩) 55)).alloc (.cells (clkC c) 87)
  have h0 := (Has.new w (evC ⟨2, t, o⟩) 55).alloc (.cells (clkC c) 87)
  have hc := (Has.new (w.alloc (.cells (evC ⟨2, t, o⟩) 55)) (clkC c) 87).at (c := w.heap.size + 1) (by simp)
  have hb : Below w.heap.size w ((w.alloc (.cells (evC ⟨2, t, o⟩) 55)).alloc (.cells (clkC c) 87)) := ((Below.refl _ _).alloc (by simp) _).alloc (by simp) _
  have hlt := h.lt
  have i0 : (0 : Int) ≤ t := by omega
  have i6 : (t : Int) < 6 := by omega
  have n0 : b ≠ w.heap.size := by omega
  have n1 : b ≠ w.heap.size + 1 := by omega
  go_enter Tryz.func92, Tryz.ntmps92
  go_wp2_with fail
  generalize (w.alloc (.cells (evC ⟨2, t, o⟩) 55)).alloc (.cells (clkC c) 87) = w1 at *
  have h1d := h1.drew
  have h0d := h0.drew
  have hcd := hc.drew
  have hd := (Below.refl w1.heap.size w1).drew
  go_region_held3 (fun W5 => (Has W5 b (vrC R W) 116 ∧ Has W5 w.heap.size (evC ⟨2, t, o⟩) 55 ∧ Has W5 (w.heap.size + 1) (clkC c) 87 ∧ Below w1.heap.size w1 W5) ∧ Six6 W5 b (x * 12 + 6) (W x) ∧ BoxAt W5 (w.heap.size + 1) c)
    (first | exact ⟨⟨h1d, h0d, hcd, hd⟩, h1d.wr6 hx, hcd.clk⟩ | exact ⟨⟨j1, j0, jc, jd⟩, j1.wr6 hx, jc.clk⟩)
    (first | (go_at_call 114; refine (hwi _).mono ?_; rintro r w6 ⟨rfl, hk6⟩; have j1 := h1d.below hk6 h1d.lt; have j0 := h0d.below hk6 h0d.lt; have jc := hcd.below hk6 hcd.lt; have jd := hd.trans (hk6.mono hd.size)))
  all_goals
    have hg := grown_of (b := b) (hb.trans (jd.mono hb.size))
    clear h1d h0d hcd hd h1 h0 hc
    cases q
    · have f0 : w6.cell? ⟨w.heap.size, 0, none⟩ = some (.int .i64 2) := j0.cell rfl
      have f1 : w6.cell? ⟨w.heap.size, 1, none⟩ = some (.int .i64 (t : Int)) := j0.cell rfl
      have e1 : w6.cell? ⟨w.heap.size + 1, t, none⟩ = some (.int .i64 (c t)) := jc.cell (clkC_get c t ht)
      have d1 : w6.cell? ⟨b, x * 12 + 6 + t, none⟩ = some (.int .i64 (W x t)) := by rw [j1.addI (by omega), vrF_wr R W ht]
      have d2 := j1.free (x * 12 + 6 + t)
      go_wp2_with fail
      go_region
      all_goals
        go_wp2
        go_ret
        rw [HK.out]
        refine ⟨rfl, ?_, (grown_set (a := ⟨b, x * 12 + 6 + t, none⟩) hg rfl (.int .i64 (c t))).drewG⟩
        exact ((j1.setCell (x * 12 + 6 + t) (.int .i64 (c t))).drew).to (by rw [rowI_set]; exact rowI_congr fun i hi => (vrF_setW R W ht _ i).symm)
    · have f0 : w6.cell? ⟨w.heap.size, 0, none⟩ = some (.int .i64 2) := j0.cell rfl
      have f1 : w6.cell? ⟨w.heap.size, 1, none⟩ = some (.int .i64 (t : Int)) := j0.cell rfl
      go_wp2_with fail
      have h1 := j1
      have h0 := j0
      have hc := jc
      have hg6 := hg
      clear j1 j0 jc jd f0 f1 hg
      have h1d := h1.drew
      have h0d := h0.drew
      have hcd := hc.drew
      have hd := (Below.refl w6.heap.size w6).drew
      go_region_held3 (fun W5 => (Has W5 b (vrC R W) 116 ∧ Has W5 w.heap.size (evC ⟨2, t, o⟩) 55 ∧ Has W5 (w.heap.size + 1) (clkC c) 87 ∧ Below w6.heap.size w6 W5) ∧ Six6 W5 b (x * 12) (R x) ∧ BoxAt W5 (w.heap.size + 1) c)
        (first | exact ⟨⟨h1d, h0d, hcd, hd⟩, h1d.rd6 hx, hcd.clk⟩ | exact ⟨⟨j1, j0, jc, jd⟩, j1.rd6 hx, jc.clk⟩)
        (first | (go_at_call 114; refine (hwr _).mono ?_; rintro r w8 ⟨rfl, hk6⟩; have j1 := h1d.below hk6 h1d.lt; have j0 := h0d.below hk6 h0d.lt; have jc := hcd.below hk6 hcd.lt; have jd := hd.trans (hk6.mono hd.size)))
      all_goals
        have hg := hg6.trans_below jd
        clear h1d h0d hcd hd h1 h0 hc
        have f0 : w8.cell? ⟨w.heap.size, 0, none⟩ = some (.int .i64 2) := j0.cell rfl
        have f1 : w8.cell? ⟨w.heap.size, 1, none⟩ = some (.int .i64 (t : Int)) := j0.cell rfl
        have e1 : w8.cell? ⟨w.heap.size + 1, t, none⟩ = some (.int .i64 (c t)) := jc.cell (clkC_get c t ht)
        have d1 : w8.cell? ⟨b, x * 12 + 6 + t, none⟩ = some (.int .i64 (W x t)) := by rw [j1.addI (by omega), vrF_wr R W ht]
        have d2 := j1.free (x * 12 + 6 + t)
        cases q2
        all_goals
          go_wp2_with fail
          go_region
          all_goals
            go_wp2
            go_ret
            rw [HK.out]
            refine ⟨rfl, ?_, (grown_set (a := ⟨b, x * 12 + 6 + t, none⟩) hg rfl (.int .i64 (c t))).drewG⟩
            exact ((j1.setCell (x * 12 + 6 + t) (.int .i64 (c t))).drew).to (by rw [rowI_set]; exact rowI_congr fun i hi => (vrF_setW R W ht _ i).symm)
end Go.Proofs.YtfjbnhacfficnaaGreatDoor
