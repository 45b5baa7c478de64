/- The keeper of clocks in memory; contract of its takes. -/
import Derived.Test.YtfjbnhacfficnaaGreatDoorZG
import Derived.Test.YtfjbnhacfficnaaGreatDoorZB
import Derived.Test.YtfjbnhacfficnaaGreatDoorZEB
import Derived.Test.YtfjbnhacfficnaaGreatDoorZA
import Derived.StillTactics
import Derived.Laws.Pointers
import Derived.Deep.RegionHeld3
import Derived.Deep.RegionLaw
import Derived.BigRegion
namespace Go.Proofs.YtfjbnhacfficnaaGreatDoor
open Go.RowKit

/-- The keeper's cells, by place. -/
def sKpF (s : Kp) (i : Nat) : Int := if i < 36 then s.th (i / 6) (i % 6) else if i < 66 then s.lk ((i - 36) / 6) ((i - 36) % 6) else s.vo ((i - 66) / 6) ((i - 66) % 6)
abbrev sKpC (s : Kp) : Array Value := rowI 90 (sKpF s)
theorem sKpF_th (s : Kp) {t i : Nat} (ht : t < 6) (hi : i < 6) : sKpF s (t * 6 + i) = s.th t i := by
  have h1 : (t * 6 + i) / 6 = t := by omega
  have h2 : (t * 6 + i) % 6 = i := by omega
  rw [sKpF, if_pos (by omega), h1, h2]
theorem sKpF_lk (s : Kp) {t i : Nat} (ht : t < 5) (hi : i < 6) : sKpF s (36 + t * 6 + i) = s.lk t i := by
  have h1 : (36 + t * 6 + i - 36) / 6 = t := by omega
  have h2 : (36 + t * 6 + i - 36) % 6 = i := by omega
  rw [sKpF, if_neg (by omega), if_pos (by omega), h1, h2]
theorem sKpF_vo (s : Kp) {t i : Nat} (ht : t < 4) (hi : i < 6) : sKpF s (66 + t * 6 + i) = s.vo t i := by
  have h1 : (66 + t * 6 + i - 66) / 6 = t := by omega
  have h2 : (66 + t * 6 + i - 66) % 6 = i := by omega
  rw [sKpF, if_neg (by omega), if_neg (by omega), h1, h2]
theorem sKpF_setTh (s : Kp) {t : Nat} (ht : t < 6) (g : Nat → Int) (i : Nat) (hi : i < 90) : sKpF { s with th := updC s.th t g } i = if t * 6 ≤ i ∧ i < t * 6 + 6 then g (i - t * 6) else sKpF s i := by
  unfold sKpF updC
  by_cases e : t * 6 ≤ i ∧ i < t * 6 + 6
  · rw [if_pos e, if_pos (by omega)]
    simp only
    rw [if_pos (by omega), show i % 6 = i - t * 6 by omega]
  · rw [if_neg e]
    split
    · simp only; rw [if_neg (by omega)]
    · rfl
theorem sKpF_setLk (s : Kp) {t : Nat} (ht : t < 5) (g : Nat → Int) (i : Nat) (hi : i < 90) : sKpF { s with lk := updC s.lk t g } i = if 36 + t * 6 ≤ i ∧ i < 36 + t * 6 + 6 then g (i - (36 + t * 6)) else sKpF s i := by
  unfold sKpF updC
  by_cases e : 36 + t * 6 ≤ i ∧ i < 36 + t * 6 + 6
  · rw [if_pos e, if_neg (by omega), if_pos (by omega)]
    simp only
    rw [if_pos (by omega), show (i - 36) % 6 = i - (36 + t * 6) by omega]
  · rw [if_neg e]
    split
    · rfl
    · split
      · simp only; rw [if_neg (by omega)]
      · rfl
theorem sKpF_setVo (s : Kp) {t : Nat} (ht : t < 4) (g : Nat → Int) (i : Nat) (hi : i < 90) : sKpF { s with vo := updC s.vo t g } i = if 66 + t * 6 ≤ i ∧ i < 66 + t * 6 + 6 then g (i - (66 + t * 6)) else sKpF s i := by
  unfold sKpF updC
  by_cases e : 66 + t * 6 ≤ i ∧ i < 66 + t * 6 + 6
  · rw [if_pos e, if_neg (by omega), if_neg (by omega)]
    simp only
    rw [if_pos (by omega), show (i - 66) % 6 = i - (66 + t * 6) by omega]
  · rw [if_neg e]
    split
    · rfl
    · split
      · rfl
      · simp only; rw [if_neg (by omega)]
theorem Has.sth6 {w : World} {b : Nat} {s : Kp} (h : Has w b (sKpC s) 135) {t : Nat} (ht : t < 6) :
    w.cell? ⟨b, t * 6, none⟩ = some (.int .i64 (s.th t 0)) ∧ w.cell? ⟨b, t * 6 + 1, none⟩ = some (.int .i64 (s.th t 1)) ∧ w.cell? ⟨b, t * 6 + 2, none⟩ = some (.int .i64 (s.th t 2)) ∧
    w.cell? ⟨b, t * 6 + 3, none⟩ = some (.int .i64 (s.th t 3)) ∧ w.cell? ⟨b, t * 6 + 4, none⟩ = some (.int .i64 (s.th t 4)) ∧ w.cell? ⟨b, t * 6 + 5, none⟩ = some (.int .i64 (s.th t 5)) := by
  refine ⟨?_, ?_, ?_, ?_, ?_, ?_⟩ <;> (rw [h.addI (by omega)]; (first | rw [sKpF_th s ht (by omega)] | (have := sKpF_th s ht (show 0 < 6 by omega); rw [Nat.add_zero] at this; rw [this])))
theorem Has.slk6 {w : World} {b : Nat} {s : Kp} (h : Has w b (sKpC s) 135) {t : Nat} (ht : t < 5) :
    w.cell? ⟨b, 36 + t * 6, none⟩ = some (.int .i64 (s.lk t 0)) ∧ w.cell? ⟨b, 36 + t * 6 + 1, none⟩ = some (.int .i64 (s.lk t 1)) ∧ w.cell? ⟨b, 36 + t * 6 + 2, none⟩ = some (.int .i64 (s.lk t 2)) ∧
    w.cell? ⟨b, 36 + t * 6 + 3, none⟩ = some (.int .i64 (s.lk t 3)) ∧ w.cell? ⟨b, 36 + t * 6 + 4, none⟩ = some (.int .i64 (s.lk t 4)) ∧ w.cell? ⟨b, 36 + t * 6 + 5, none⟩ = some (.int .i64 (s.lk t 5)) := by
  refine ⟨?_, ?_, ?_, ?_, ?_, ?_⟩ <;> (rw [h.addI (by omega)]; (first | rw [sKpF_lk s ht (by omega)] | (have := sKpF_lk s ht (show 0 < 6 by omega); rw [Nat.add_zero] at this; rw [this])))
theorem Has.svo6 {w : World} {b : Nat} {s : Kp} (h : Has w b (sKpC s) 135) {t : Nat} (ht : t < 4) :
    w.cell? ⟨b, 66 + t * 6, none⟩ = some (.int .i64 (s.vo t 0)) ∧ w.cell? ⟨b, 66 + t * 6 + 1, none⟩ = some (.int .i64 (s.vo t 1)) ∧ w.cell? ⟨b, 66 + t * 6 + 2, none⟩ = some (.int .i64 (s.vo t 2)) ∧
    w.cell? ⟨b, 66 + t * 6 + 3, none⟩ = some (.int .i64 (s.vo t 3)) ∧ w.cell? ⟨b, 66 + t * 6 + 4, none⟩ = some (.int .i64 (s.vo t 4)) ∧ w.cell? ⟨b, 66 + t * 6 + 5, none⟩ = some (.int .i64 (s.vo t 5)) := by
  refine ⟨?_, ?_, ?_, ?_, ?_, ?_⟩ <;> (rw [h.addI (by omega)]; (first | rw [sKpF_vo s ht (by omega)] | (have := sKpF_vo s ht (show 0 < 6 by omega); rw [Nat.add_zero] at this; rw [this])))
theorem sClk_size : (Tryz.prog.info? 87).map (·.size) = some 6 := by kernel_rfl
structure SKTook (w w' : World) (b : Nat) (s : Kp) : Prop where
  has : Has w' b (sKpC s) 135
  grown : w.grownBy w' (some b)

theorem sKpF_tick (s : Kp) {t : Nat} (ht : t < 6) (g : Nat → Int) (i : Nat) (hi : i < 90) : sKpF { s with th := updC s.th t (tickC g t) } i = if i = t * 6 + t then g t + 1 else sKpF { s with th := updC s.th t g } i := by
  rw [sKpF_setTh s ht _ i hi, sKpF_setTh s ht _ i hi]
  by_cases e : i = t * 6 + t
  · subst e
    rw [if_pos (by omega), if_pos rfl, show t * 6 + t - t * 6 = t by omega]
    simp [tickC]
  · rw [if_neg e]
    by_cases e2 : t * 6 ≤ i ∧ i < t * 6 + 6
    · rw [if_pos e2, if_pos e2]
      have : ¬ i - t * 6 = t := by omega
      simp [tickC, this]
    · rw [if_neg e2, if_neg e2]
theorem sKpF_same (s : Kp) {t : Nat} (ht : t < 6) (i : Nat) (hi : i < 90) : sKpF { s with th := updC s.th t (s.th t) } i = sKpF s i := by
  rw [sKpF_setTh s ht _ i hi]
  split
  · rename_i e
    obtain ⟨j, rfl⟩ : ∃ j, i = t * 6 + j := ⟨i - t * 6, by omega⟩
    rw [show t * 6 + j - t * 6 = j by omega, sKpF_th s ht (by omega)]
  · rfl
theorem sGrownBy_setNew {w w' : World} {row : Option Nat} (h : w.grownBy w' row) {a : Addr} (ha : w.heap.size ≤ a.block) (v : Value) : w.grownBy (w'.setCell a v) row :=
  ⟨h.os, h.tape, h.output, by simpa [World.setCell] using h.size, fun k hk hne => (Below.heap_setCell w' a v k (by omega)).trans (h.block k hk hne)⟩
/-- All numbers of the keeper are small. -/
structure SKB (s : Kp) : Prop where
  th : ∀ a τ, 0 ≤ s.th a τ ∧ s.th a τ ≤ 1000
  lk : ∀ a τ, 0 ≤ s.lk a τ ∧ s.lk a τ ≤ 1000
  vo : ∀ a τ, 0 ≤ s.vo a τ ∧ s.vo a τ ≤ 1000
theorem end_ktook {P : Program} {fn : Func} {R : Ending → World → Prop} {e : Exit} {a : Act} {W w : World} {b c : Nat} {s : Kp} {g : Nat → Int} (h1 : Has W b (sKpC s) 135) (h2 : Has W c (clkC g) 87) (hg : w.grownBy W (some b))
    (h : ∀ W, SKTook w W b s → Has W c (clkC g) 87 → bodyPost P fn R e a W) : bodyPost P fn R e a W := h W ⟨h1, hg⟩ h2
--CASES
set_option maxRecDepth 100000 in
set_option maxHeartbeats 8000000 in
theorem ktakes1 (s : Kp) (t o : Nat) (b : Nat) (w : World) (h : Has w b (sKpC s) 135) (hB : SKB s) (ht : t < 6) (ho : o < 8) :
    Calls Tryz.prog 66 #[.pointer (some ⟨b, 0, none⟩), evV ⟨1, t, o⟩] w fun r w' => r = .returned (clkV (kMine s ⟨1, t, o⟩)) ∧ SKTook w w' b (kNext s ⟨1, t, o⟩) := by
  have hP : kPre s ⟨1, t, o⟩ = s.th t := by simp [kPre]
  have hM : kMine s ⟨1, t, o⟩ = tickC (s.th t) t := by rw [kMine, hP]; simp
  have HM := Lib.hid hM
  clear hM hP
  have bt := hB.th t t
  have bl := hB.lk o t
  have bv := hB.vo o t
  have bo := hB.th o t
  have bP : 0 ≤ (s.th t) t ∧ (s.th t) t ≤ 1000 := by (try simp only [cmax]); omega
  clear bt bl bv bo hB
  have h1 := h.alloc (.cells (evC ⟨1, t, o⟩) 55)
  have h0 := Has.new w (evC ⟨1, t, o⟩) 55
  have hb : Below w.heap.size w (w.alloc (.cells (evC ⟨1, t, o⟩) 55)) := (Below.refl _ _).alloc (by simp) _
  have hlt := h.lt
  have i0 : (0 : Int) ≤ t := by omega
  have i6 : (t : Int) < 6 := by omega
  have j0 : (0 : Int) ≤ o := by omega
  have j5 : (o : Int) < 8 := by omega
  have n0 : b ≠ w.heap.size := by omega
  have n1 : b ≠ w.heap.size + 1 := by omega
  go_enter Tryz.func66, Tryz.ntmps66
  go_wp2_with fail
  go_quiet (fail)
  go_wp2_with fail
  have hz := Has.new (w.alloc (.cells (evC ⟨1, t, o⟩) 55)) (clkC fun _ => 0) 87
  replace h1 := (h1.alloc (.cells (clkC fun _ => 0) 87)).drewN nq
  replace h0 := (h0.alloc (.cells (clkC fun _ => 0) 87)).drewN nq
  replace hz := (hz.at (c := w.heap.size + 1) (by simp)).drewN nq
  replace hb := grown_of (b := b) (below_drewN (hb.alloc (by simp) (.cells (clkC fun _ => 0) 87)) nq)
  generalize ((w.alloc (.cells (evC ⟨1, t, o⟩) 55)).alloc (.cells (clkC fun _ => 0) 87)).drewN nq = w1 at *
  have s1 : Has w1 b (sKpC { s with th := updC s.th t (s.th t) }) 135 := h1.to (rowI_congr fun i hi => (sKpF_same s ht i hi).symm)
  generalize hS1 : ({ s with th := updC s.th t (s.th t) } : Kp) = sp at *
  have HS1 := Lib.hid hS1
  clear hS1
  have s0 := h0
  have sz := hz
  have sb := hb
  clear h1 h0 hz hb
  have f2 : w1.cell? ⟨w.heap.size, 2, none⟩ = some (.int .i64 (o : Int)) := s0.cell rfl
  have f1 : w1.cell? ⟨w.heap.size, 1, none⟩ = some (.int .i64 (t : Int)) := s0.cell rfl
  have f0 : w1.cell? ⟨w.heap.size, 0, none⟩ = some (.int .i64 1) := s0.cell rfl
  have hpt : sp.th t t = (s.th t) t := by rw [← HS1.out]; simp [updC]
  rw [← hpt] at bP
  have hw := IntWalk.i64_in (sp.th t t + 1) (by omega)
  have HPT := Lib.hid hpt
  clear hpt
  have d1 : w1.cell? ⟨b, t * 6 + t, none⟩ = some (.int .i64 (sp.th t t)) := by rw [s1.addI (by omega), sKpF_th sp ht ht]
  have d2 := s1.free (t * 6 + t)
  go_wp2_with fail
  go_region
  clear d1 d2 hw f0 f1 f2
  replace s1 : Has _ b (sKpC { s with th := updC s.th t (tickC (s.th t) t) }) 135 := ((s1.setCell (t * 6 + t) (.int .i64 (sp.th t t + 1))).drew).to (by rw [rowI_set]; exact rowI_congr fun i hi => by rw [sKpF_tick s ht _ i hi, HPT.out, HS1.out])
  replace s0 := (s0.setCell_ne (a := ⟨b, t * 6 + t, none⟩) (Ne.symm n0) (.int .i64 (sp.th t t + 1))).drew
  replace sz := (sz.setCell_ne (a := ⟨b, t * 6 + t, none⟩) (Ne.symm n1) (.int .i64 (sp.th t t + 1))).drew
  replace sb := (grown_set (a := ⟨b, t * 6 + t, none⟩) sb rfl (.int .i64 (sp.th t t + 1))).drewG
  rw [← HM.out] at s1
  generalize (w1.setCell ⟨b, t * 6 + t, none⟩ (.int .i64 (sp.th t t + 1))).drew = w5 at *
  clear HPT HS1 bP
  have hq : ({ s with th := updC s.th t (kMine s ⟨1, t, o⟩) } : Kp).th t = kMine s ⟨1, t, o⟩ := by simp [updC]
  have hN : kNext s ⟨1, t, o⟩ = { s with th := updC s.th t (kMine s ⟨1, t, o⟩) } := by simp [kNext]
  rw [← hN] at s1 hq
  clear hN
  generalize hSn : kNext s ⟨1, t, o⟩ = sn at s1 hq
  have HSn := Lib.hid hSn
  clear hSn
  generalize hMM : kMine s ⟨1, t, o⟩ = M at hq
  have HMM := Lib.hid hMM
  clear HM hMM
  have f2 : w5.cell? ⟨w.heap.size, 2, none⟩ = some (.int .i64 (o : Int)) := s0.cell rfl
  have f1 : w5.cell? ⟨w.heap.size, 1, none⟩ = some (.int .i64 (t : Int)) := s0.cell rfl
  have f0 : w5.cell? ⟨w.heap.size, 0, none⟩ = some (.int .i64 1) := s0.cell rfl
  obtain ⟨a0, a1, a2, a3, a4, a5⟩ := s1.sth6 ht
  rw [hq] at a0 a1 a2 a3 a4 a5
  have HQ := Lib.hid hq
  clear hq
  replace sz : Has w5 (w.heap.size + 1) (clkC fun _ => 0) 87 := sz
  obtain ⟨e0, e1, e2, e3, e4, e5⟩ := sz.clk
  obtain ⟨g0, g1, g2, g3, g4, g5⟩ := sz.clkFree
  go_wp2_with fail
  clear e0 e1 e2 e3 e4 e5 g0 g1 g2 g3 g4 g5 a0 a1 a2 a3 a4 a5
  refine end_ktook (w := w) (b := b) (c := w.heap.size + 1) (s := sn) (g := M) ?_ ?_ ?_ ?_
  · exact (((((s1.setCell_ne n1 _).setCell_ne n1 _).setCell_ne n1 _).setCell_ne n1 _).setCell_ne n1 _).setCell_ne n1 _
  · exact ((((((sz.setCell _ _).setCell _ _).setCell _ _).setCell _ _).setCell _ _).setCell _ _).to (by simp [clkC])
  · exact sGrownBy_setNew (sGrownBy_setNew (sGrownBy_setNew (sGrownBy_setNew (sGrownBy_setNew (sGrownBy_setNew sb (by simp) _) (by simp) _) (by simp) _) (by simp) _) (by simp) _) (by simp) _
  intro W hW hZ
  obtain ⟨c0, c1, c2, c3, c4, c5⟩ := hZ.clk
  exact bodyPost_ret (v := clkV M) (by simp [results, Tryz.results66, go_sem, c0, c1, c2, c3, c4, c5]) rfl ⟨by rw [HMM.out], by rw [HSn.out]; exact hW⟩

set_option maxRecDepth 100000 in
set_option maxHeartbeats 8000000 in
theorem ktakes2 (s : Kp) (t o : Nat) (b : Nat) (w : World) (h : Has w b (sKpC s) 135) (hB : SKB s) (ht : t < 6) (ho : o < 8) :
    Calls Tryz.prog 66 #[.pointer (some ⟨b, 0, none⟩), evV ⟨2, t, o⟩] w fun r w' => r = .returned (clkV (kMine s ⟨2, t, o⟩)) ∧ SKTook w w' b (kNext s ⟨2, t, o⟩) := by
  have hP : kPre s ⟨2, t, o⟩ = s.th t := by simp [kPre]
  have hM : kMine s ⟨2, t, o⟩ = tickC (s.th t) t := by rw [kMine, hP]; simp
  have HM := Lib.hid hM
  clear hM hP
  have bt := hB.th t t
  have bl := hB.lk o t
  have bv := hB.vo o t
  have bo := hB.th o t
  have bP : 0 ≤ (s.th t) t ∧ (s.th t) t ≤ 1000 := by (try simp only [cmax]); omega
  clear bt bl bv bo hB
  have h1 := h.alloc (.cells (evC ⟨2, t, o⟩) 55)
  have h0 := Has.new w (evC ⟨2, t, o⟩) 55
  have hb : Below w.heap.size w (w.alloc (.cells (evC ⟨2, t, o⟩) 55)) := (Below.refl _ _).alloc (by simp) _
  have hlt := h.lt
  have i0 : (0 : Int) ≤ t := by omega
  have i6 : (t : Int) < 6 := by omega
  have j0 : (0 : Int) ≤ o := by omega
  have j5 : (o : Int) < 8 := by omega
  have n0 : b ≠ w.heap.size := by omega
  have n1 : b ≠ w.heap.size + 1 := by omega
  go_enter Tryz.func66, Tryz.ntmps66
  go_wp2_with fail
  go_quiet (fail)
  go_wp2_with fail
  have hz := Has.new (w.alloc (.cells (evC ⟨2, t, o⟩) 55)) (clkC fun _ => 0) 87
  replace h1 := (h1.alloc (.cells (clkC fun _ => 0) 87)).drewN nq
  replace h0 := (h0.alloc (.cells (clkC fun _ => 0) 87)).drewN nq
  replace hz := (hz.at (c := w.heap.size + 1) (by simp)).drewN nq
  replace hb := grown_of (b := b) (below_drewN (hb.alloc (by simp) (.cells (clkC fun _ => 0) 87)) nq)
  generalize ((w.alloc (.cells (evC ⟨2, t, o⟩) 55)).alloc (.cells (clkC fun _ => 0) 87)).drewN nq = w1 at *
  have s1 : Has w1 b (sKpC { s with th := updC s.th t (s.th t) }) 135 := h1.to (rowI_congr fun i hi => (sKpF_same s ht i hi).symm)
  generalize hS1 : ({ s with th := updC s.th t (s.th t) } : Kp) = sp at *
  have HS1 := Lib.hid hS1
  clear hS1
  have s0 := h0
  have sz := hz
  have sb := hb
  clear h1 h0 hz hb
  have f2 : w1.cell? ⟨w.heap.size, 2, none⟩ = some (.int .i64 (o : Int)) := s0.cell rfl
  have f1 : w1.cell? ⟨w.heap.size, 1, none⟩ = some (.int .i64 (t : Int)) := s0.cell rfl
  have f0 : w1.cell? ⟨w.heap.size, 0, none⟩ = some (.int .i64 2) := s0.cell rfl
  have hpt : sp.th t t = (s.th t) t := by rw [← HS1.out]; simp [updC]
  rw [← hpt] at bP
  have hw := IntWalk.i64_in (sp.th t t + 1) (by omega)
  have HPT := Lib.hid hpt
  clear hpt
  have d1 : w1.cell? ⟨b, t * 6 + t, none⟩ = some (.int .i64 (sp.th t t)) := by rw [s1.addI (by omega), sKpF_th sp ht ht]
  have d2 := s1.free (t * 6 + t)
  go_wp2_with fail
  go_region
  clear d1 d2 hw f0 f1 f2
  replace s1 : Has _ b (sKpC { s with th := updC s.th t (tickC (s.th t) t) }) 135 := ((s1.setCell (t * 6 + t) (.int .i64 (sp.th t t + 1))).drew).to (by rw [rowI_set]; exact rowI_congr fun i hi => by rw [sKpF_tick s ht _ i hi, HPT.out, HS1.out])
  replace s0 := (s0.setCell_ne (a := ⟨b, t * 6 + t, none⟩) (Ne.symm n0) (.int .i64 (sp.th t t + 1))).drew
  replace sz := (sz.setCell_ne (a := ⟨b, t * 6 + t, none⟩) (Ne.symm n1) (.int .i64 (sp.th t t + 1))).drew
  replace sb := (grown_set (a := ⟨b, t * 6 + t, none⟩) sb rfl (.int .i64 (sp.th t t + 1))).drewG
  rw [← HM.out] at s1
  generalize (w1.setCell ⟨b, t * 6 + t, none⟩ (.int .i64 (sp.th t t + 1))).drew = w5 at *
  clear HPT HS1 bP
  have hq : ({ s with th := updC s.th t (kMine s ⟨2, t, o⟩) } : Kp).th t = kMine s ⟨2, t, o⟩ := by simp [updC]
  have hN : kNext s ⟨2, t, o⟩ = { s with th := updC s.th t (kMine s ⟨2, t, o⟩) } := by simp [kNext]
  rw [← hN] at s1 hq
  clear hN
  generalize hSn : kNext s ⟨2, t, o⟩ = sn at s1 hq
  have HSn := Lib.hid hSn
  clear hSn
  generalize hMM : kMine s ⟨2, t, o⟩ = M at hq
  have HMM := Lib.hid hMM
  clear HM hMM
  have f2 : w5.cell? ⟨w.heap.size, 2, none⟩ = some (.int .i64 (o : Int)) := s0.cell rfl
  have f1 : w5.cell? ⟨w.heap.size, 1, none⟩ = some (.int .i64 (t : Int)) := s0.cell rfl
  have f0 : w5.cell? ⟨w.heap.size, 0, none⟩ = some (.int .i64 2) := s0.cell rfl
  obtain ⟨a0, a1, a2, a3, a4, a5⟩ := s1.sth6 ht
  rw [hq] at a0 a1 a2 a3 a4 a5
  have HQ := Lib.hid hq
  clear hq
  replace sz : Has w5 (w.heap.size + 1) (clkC fun _ => 0) 87 := sz
  obtain ⟨e0, e1, e2, e3, e4, e5⟩ := sz.clk
  obtain ⟨g0, g1, g2, g3, g4, g5⟩ := sz.clkFree
  go_wp2_with fail
  clear e0 e1 e2 e3 e4 e5 g0 g1 g2 g3 g4 g5 a0 a1 a2 a3 a4 a5
  refine end_ktook (w := w) (b := b) (c := w.heap.size + 1) (s := sn) (g := M) ?_ ?_ ?_ ?_
  · exact (((((s1.setCell_ne n1 _).setCell_ne n1 _).setCell_ne n1 _).setCell_ne n1 _).setCell_ne n1 _).setCell_ne n1 _
  · exact ((((((sz.setCell _ _).setCell _ _).setCell _ _).setCell _ _).setCell _ _).setCell _ _).to (by simp [clkC])
  · exact sGrownBy_setNew (sGrownBy_setNew (sGrownBy_setNew (sGrownBy_setNew (sGrownBy_setNew (sGrownBy_setNew sb (by simp) _) (by simp) _) (by simp) _) (by simp) _) (by simp) _) (by simp) _
  intro W hW hZ
  obtain ⟨c0, c1, c2, c3, c4, c5⟩ := hZ.clk
  exact bodyPost_ret (v := clkV M) (by simp [results, Tryz.results66, go_sem, c0, c1, c2, c3, c4, c5]) rfl ⟨by rw [HMM.out], by rw [HSn.out]; exact hW⟩

set_option maxRecDepth 100000 in
set_option maxHeartbeats 8000000 in
theorem ktakes3 (s : Kp) (t o : Nat) (b : Nat) (w : World) (h : Has w b (sKpC s) 135) (hB : SKB s) (ht : t < 6) (ho : o < 5) :
    Calls Tryz.prog 66 #[.pointer (some ⟨b, 0, none⟩), evV ⟨3, t, o⟩] w fun r w' => r = .returned (clkV (kMine s ⟨3, t, o⟩)) ∧ SKTook w w' b (kNext s ⟨3, t, o⟩) := by
  have hP : kPre s ⟨3, t, o⟩ = cmax (s.th t) (s.lk o) := by simp [kPre]
  have hM : kMine s ⟨3, t, o⟩ = tickC (cmax (s.th t) (s.lk o)) t := by rw [kMine, hP]; simp
  have HM := Lib.hid hM
  clear hM hP
  have bt := hB.th t t
  have bl := hB.lk o t
  have bv := hB.vo o t
  have bo := hB.th o t
  have bP : 0 ≤ (cmax (s.th t) (s.lk o)) t ∧ (cmax (s.th t) (s.lk o)) t ≤ 1000 := by (try simp only [cmax]); omega
  clear bt bl bv bo hB
  have h1 := h.alloc (.cells (evC ⟨3, t, o⟩) 55)
  have h0 := Has.new w (evC ⟨3, t, o⟩) 55
  have hb : Below w.heap.size w (w.alloc (.cells (evC ⟨3, t, o⟩) 55)) := (Below.refl _ _).alloc (by simp) _
  have hlt := h.lt
  have i0 : (0 : Int) ≤ t := by omega
  have i6 : (t : Int) < 6 := by omega
  have j0 : (0 : Int) ≤ o := by omega
  have j5 : (o : Int) < 5 := by omega
  have n0 : b ≠ w.heap.size := by omega
  have n1 : b ≠ w.heap.size + 1 := by omega
  go_enter Tryz.func66, Tryz.ntmps66
  go_wp2_with fail
  go_quiet (fail)
  go_wp2_with fail
  have hz := Has.new (w.alloc (.cells (evC ⟨3, t, o⟩) 55)) (clkC fun _ => 0) 87
  replace h1 := (h1.alloc (.cells (clkC fun _ => 0) 87)).drewN nq
  replace h0 := (h0.alloc (.cells (clkC fun _ => 0) 87)).drewN nq
  replace hz := (hz.at (c := w.heap.size + 1) (by simp)).drewN nq
  replace hb := grown_of (b := b) (below_drewN (hb.alloc (by simp) (.cells (clkC fun _ => 0) 87)) nq)
  generalize ((w.alloc (.cells (evC ⟨3, t, o⟩) 55)).alloc (.cells (clkC fun _ => 0) 87)).drewN nq = w1 at *
  have f2 : w1.cell? ⟨w.heap.size, 2, none⟩ = some (.int .i64 (o : Int)) := h0.cell rfl
  have f1 : w1.cell? ⟨w.heap.size, 1, none⟩ = some (.int .i64 (t : Int)) := h0.cell rfl
  have f0 : w1.cell? ⟨w.heap.size, 0, none⟩ = some (.int .i64 3) := h0.cell rfl
  obtain ⟨a0, a1, a2, a3, a4, a5⟩ := h1.sth6 ht
  obtain ⟨b0, b1, b2, b3, b4, b5⟩ := h1.slk6 ho
  go_region_law (first | (go_simp; go_at_call 98; refine (join_any (s.th t) (s.lk o) _).mono ?_; rintro r w2 ⟨rfl, hk⟩; have q1 := h1.drew.below hk h1.lt; have q0 := h0.drew.below hk h0.lt; have qz := hz.drew.below hk hz.lt; have qb := hb.drewG.trans_below hk; obtain ⟨c0, c1, c2, c3, c4, c5⟩ := q1.sth6 ht; have z := q1.free))
  all_goals
    clear a0 a1 a2 a3 a4 a5 b0 b1 b2 b3 b4 b5 c0 c1 c2 c3 c4 c5 z f0 f1 f2
    have s1 := q1.setSix (t * 6) (cmax (s.th t) (s.lk o)) _ (sKpF_setTh s ht (cmax (s.th t) (s.lk o)))
    have s0 := q0.setCells_ne (b' := b) (Ne.symm n0) (clkC (cmax (s.th t) (s.lk o))).toList (t * 6)
    have sz := qz.setCells_ne (b' := b) (Ne.symm n1) (clkC (cmax (s.th t) (s.lk o))).toList (t * 6)
    have sb := grownBy_setCells qb (clkC (cmax (s.th t) (s.lk o))).toList (t * 6)
    simp only [World.setCells, clkC, Nat.add_assoc, Nat.reduceAdd] at s1 s0 sz sb
    clear q1 q0 qz qb h1 h0 hz hb hk
    generalize ((((((w2.setCell _ _).setCell _ _).setCell _ _).setCell _ _).setCell _ _).setCell _ _) = w4 at *
    generalize hS1 : ({ s with th := updC s.th t (cmax (s.th t) (s.lk o)) } : Kp) = sp at *
    have HS1 := Lib.hid hS1
    clear hS1
    clear w2
    have f2 : w4.cell? ⟨w.heap.size, 2, none⟩ = some (.int .i64 (o : Int)) := s0.cell rfl
    have f1 : w4.cell? ⟨w.heap.size, 1, none⟩ = some (.int .i64 (t : Int)) := s0.cell rfl
    have f0 : w4.cell? ⟨w.heap.size, 0, none⟩ = some (.int .i64 3) := s0.cell rfl
    have hpt : sp.th t t = (cmax (s.th t) (s.lk o)) t := by rw [← HS1.out]; simp [updC]
    rw [← hpt] at bP
    have hw := IntWalk.i64_in (sp.th t t + 1) (by omega)
    have HPT := Lib.hid hpt
    clear hpt
    have d1 : w4.cell? ⟨b, t * 6 + t, none⟩ = some (.int .i64 (sp.th t t)) := by rw [s1.addI (by omega), sKpF_th sp ht ht]
    have d2 := s1.free (t * 6 + t)
    go_wp2_with fail
    go_region
    clear d1 d2 hw f0 f1 f2
    replace s1 : Has _ b (sKpC { s with th := updC s.th t (tickC (cmax (s.th t) (s.lk o)) t) }) 135 := ((s1.setCell (t * 6 + t) (.int .i64 (sp.th t t + 1))).drew).to (by rw [rowI_set]; exact rowI_congr fun i hi => by rw [sKpF_tick s ht _ i hi, HPT.out, HS1.out])
    replace s0 := (s0.setCell_ne (a := ⟨b, t * 6 + t, none⟩) (Ne.symm n0) (.int .i64 (sp.th t t + 1))).drew
    replace sz := (sz.setCell_ne (a := ⟨b, t * 6 + t, none⟩) (Ne.symm n1) (.int .i64 (sp.th t t + 1))).drew
    replace sb := (grown_set (a := ⟨b, t * 6 + t, none⟩) sb rfl (.int .i64 (sp.th t t + 1))).drewG
    rw [← HM.out] at s1
    generalize (w4.setCell ⟨b, t * 6 + t, none⟩ (.int .i64 (sp.th t t + 1))).drew = w5 at *
    clear HPT HS1 bP
    have hq : ({ s with th := updC s.th t (kMine s ⟨3, t, o⟩) } : Kp).th t = kMine s ⟨3, t, o⟩ := by simp [updC]
    have hN : kNext s ⟨3, t, o⟩ = { s with th := updC s.th t (kMine s ⟨3, t, o⟩) } := by simp [kNext]
    rw [← hN] at s1 hq
    clear hN
    generalize hSn : kNext s ⟨3, t, o⟩ = sn at s1 hq
    have HSn := Lib.hid hSn
    clear hSn
    generalize hMM : kMine s ⟨3, t, o⟩ = M at hq
    have HMM := Lib.hid hMM
    clear HM hMM
    have f2 : w5.cell? ⟨w.heap.size, 2, none⟩ = some (.int .i64 (o : Int)) := s0.cell rfl
    have f1 : w5.cell? ⟨w.heap.size, 1, none⟩ = some (.int .i64 (t : Int)) := s0.cell rfl
    have f0 : w5.cell? ⟨w.heap.size, 0, none⟩ = some (.int .i64 3) := s0.cell rfl
    obtain ⟨a0, a1, a2, a3, a4, a5⟩ := s1.sth6 ht
    rw [hq] at a0 a1 a2 a3 a4 a5
    have HQ := Lib.hid hq
    clear hq
    replace sz : Has w5 (w.heap.size + 1) (clkC fun _ => 0) 87 := sz
    obtain ⟨e0, e1, e2, e3, e4, e5⟩ := sz.clk
    obtain ⟨g0, g1, g2, g3, g4, g5⟩ := sz.clkFree
    go_wp2_with fail
    clear e0 e1 e2 e3 e4 e5 g0 g1 g2 g3 g4 g5 a0 a1 a2 a3 a4 a5
    refine end_ktook (w := w) (b := b) (c := w.heap.size + 1) (s := sn) (g := M) ?_ ?_ ?_ ?_
    · exact (((((s1.setCell_ne n1 _).setCell_ne n1 _).setCell_ne n1 _).setCell_ne n1 _).setCell_ne n1 _).setCell_ne n1 _
    · exact ((((((sz.setCell _ _).setCell _ _).setCell _ _).setCell _ _).setCell _ _).setCell _ _).to (by simp [clkC])
    · exact sGrownBy_setNew (sGrownBy_setNew (sGrownBy_setNew (sGrownBy_setNew (sGrownBy_setNew (sGrownBy_setNew sb (by simp) _) (by simp) _) (by simp) _) (by simp) _) (by simp) _) (by simp) _
    intro W hW hZ
    obtain ⟨c0, c1, c2, c3, c4, c5⟩ := hZ.clk
    exact bodyPost_ret (v := clkV M) (by simp [results, Tryz.results66, go_sem, c0, c1, c2, c3, c4, c5]) rfl ⟨by rw [HMM.out], by rw [HSn.out]; exact hW⟩

set_option maxRecDepth 100000 in
set_option maxHeartbeats 8000000 in
theorem ktakes5 (s : Kp) (t o : Nat) (b : Nat) (w : World) (h : Has w b (sKpC s) 135) (hB : SKB s) (ht : t < 6) (ho : o < 6) :
    Calls Tryz.prog 66 #[.pointer (some ⟨b, 0, none⟩), evV ⟨5, t, o⟩] w fun r w' => r = .returned (clkV (kMine s ⟨5, t, o⟩)) ∧ SKTook w w' b (kNext s ⟨5, t, o⟩) := by
  have hP : kPre s ⟨5, t, o⟩ = s.th t := by simp [kPre]
  have hM : kMine s ⟨5, t, o⟩ = tickC (s.th t) t := by rw [kMine, hP]; simp
  have HM := Lib.hid hM
  clear hM hP
  have bt := hB.th t t
  have bl := hB.lk o t
  have bv := hB.vo o t
  have bo := hB.th o t
  have bP : 0 ≤ (s.th t) t ∧ (s.th t) t ≤ 1000 := by (try simp only [cmax]); omega
  clear bt bl bv bo hB
  have h1 := h.alloc (.cells (evC ⟨5, t, o⟩) 55)
  have h0 := Has.new w (evC ⟨5, t, o⟩) 55
  have hb : Below w.heap.size w (w.alloc (.cells (evC ⟨5, t, o⟩) 55)) := (Below.refl _ _).alloc (by simp) _
  have hlt := h.lt
  have i0 : (0 : Int) ≤ t := by omega
  have i6 : (t : Int) < 6 := by omega
  have j0 : (0 : Int) ≤ o := by omega
  have j5 : (o : Int) < 6 := by omega
  have n0 : b ≠ w.heap.size := by omega
  have n1 : b ≠ w.heap.size + 1 := by omega
  go_enter Tryz.func66, Tryz.ntmps66
  go_wp2_with fail
  go_quiet (fail)
  go_wp2_with fail
  have hz := Has.new (w.alloc (.cells (evC ⟨5, t, o⟩) 55)) (clkC fun _ => 0) 87
  replace h1 := (h1.alloc (.cells (clkC fun _ => 0) 87)).drewN nq
  replace h0 := (h0.alloc (.cells (clkC fun _ => 0) 87)).drewN nq
  replace hz := (hz.at (c := w.heap.size + 1) (by simp)).drewN nq
  replace hb := grown_of (b := b) (below_drewN (hb.alloc (by simp) (.cells (clkC fun _ => 0) 87)) nq)
  generalize ((w.alloc (.cells (evC ⟨5, t, o⟩) 55)).alloc (.cells (clkC fun _ => 0) 87)).drewN nq = w1 at *
  have s1 : Has w1 b (sKpC { s with th := updC s.th t (s.th t) }) 135 := h1.to (rowI_congr fun i hi => (sKpF_same s ht i hi).symm)
  generalize hS1 : ({ s with th := updC s.th t (s.th t) } : Kp) = sp at *
  have HS1 := Lib.hid hS1
  clear hS1
  have s0 := h0
  have sz := hz
  have sb := hb
  clear h1 h0 hz hb
  have f2 : w1.cell? ⟨w.heap.size, 2, none⟩ = some (.int .i64 (o : Int)) := s0.cell rfl
  have f1 : w1.cell? ⟨w.heap.size, 1, none⟩ = some (.int .i64 (t : Int)) := s0.cell rfl
  have f0 : w1.cell? ⟨w.heap.size, 0, none⟩ = some (.int .i64 5) := s0.cell rfl
  have hpt : sp.th t t = (s.th t) t := by rw [← HS1.out]; simp [updC]
  rw [← hpt] at bP
  have hw := IntWalk.i64_in (sp.th t t + 1) (by omega)
  have HPT := Lib.hid hpt
  clear hpt
  have d1 : w1.cell? ⟨b, t * 6 + t, none⟩ = some (.int .i64 (sp.th t t)) := by rw [s1.addI (by omega), sKpF_th sp ht ht]
  have d2 := s1.free (t * 6 + t)
  go_wp2_with fail
  go_region
  clear d1 d2 hw f0 f1 f2
  replace s1 : Has _ b (sKpC { s with th := updC s.th t (tickC (s.th t) t) }) 135 := ((s1.setCell (t * 6 + t) (.int .i64 (sp.th t t + 1))).drew).to (by rw [rowI_set]; exact rowI_congr fun i hi => by rw [sKpF_tick s ht _ i hi, HPT.out, HS1.out])
  replace s0 := (s0.setCell_ne (a := ⟨b, t * 6 + t, none⟩) (Ne.symm n0) (.int .i64 (sp.th t t + 1))).drew
  replace sz := (sz.setCell_ne (a := ⟨b, t * 6 + t, none⟩) (Ne.symm n1) (.int .i64 (sp.th t t + 1))).drew
  replace sb := (grown_set (a := ⟨b, t * 6 + t, none⟩) sb rfl (.int .i64 (sp.th t t + 1))).drewG
  rw [← HM.out] at s1
  generalize (w1.setCell ⟨b, t * 6 + t, none⟩ (.int .i64 (sp.th t t + 1))).drew = w5 at *
  clear HPT HS1 bP
  have hq : ({ s with th := updC s.th t (kMine s ⟨5, t, o⟩) } : Kp).th t = kMine s ⟨5, t, o⟩ := by simp [updC]
  generalize hSn : ({ s with th := updC s.th t (kMine s ⟨5, t, o⟩) } : Kp) = sn at s1 hq
  have HSn := Lib.hid hSn
  clear hSn
  generalize hMM : kMine s ⟨5, t, o⟩ = M at hq
  have HMM := Lib.hid hMM
  clear HM hMM
  have f2 : w5.cell? ⟨w.heap.size, 2, none⟩ = some (.int .i64 (o : Int)) := s0.cell rfl
  have f1 : w5.cell? ⟨w.heap.size, 1, none⟩ = some (.int .i64 (t : Int)) := s0.cell rfl
  have f0 : w5.cell? ⟨w.heap.size, 0, none⟩ = some (.int .i64 5) := s0.cell rfl
  obtain ⟨a0, a1, a2, a3, a4, a5⟩ := s1.sth6 ht
  rw [hq] at a0 a1 a2 a3 a4 a5
  have HQ := Lib.hid hq
  clear hq
  obtain ⟨c0, c1, c2, c3, c4, c5⟩ := s1.sth6 ho
  have z := s1.free
  go_wp2_with fail
  go_region
  clear a0 a1 a2 a3 a4 a5 c0 c1 c2 c3 c4 c5 z
  have q1 := s1.setSix (o * 6) M _ (sKpF_setTh sn ho M)
  have q0 := s0.setCells_ne (b' := b) (Ne.symm n0) (clkC M).toList (o * 6)
  have qz := sz.setCells_ne (b' := b) (Ne.symm n1) (clkC M).toList (o * 6)
  have qb := grownBy_setCells sb (clkC M).toList (o * 6)
  simp only [World.setCells, clkC, Nat.add_assoc, Nat.reduceAdd] at q1 q0 qz qb
  clear s1 s0 sz sb
  have s1 := q1.drew
  have s0 := q0.drew
  have sz := qz.drew
  have sb := qb.drewG
  clear q1 q0 qz qb
  generalize ((((((w5.setCell _ _).setCell _ _).setCell _ _).setCell _ _).setCell _ _).setCell _ _).drew = w6 at *
  have HT6 : Hid (({ sn with th := updC sn.th o M } : Kp).th t = M) := Lib.hid (by simp only [updC]; split; rfl; exact HQ.out)
  have HN6 : Hid (kNext s ⟨5, t, o⟩ = { sn with th := updC sn.th o M }) := Lib.hid (by rw [← HSn.out, ← HMM.out]; simp [kNext])
  generalize ({ sn with th := updC sn.th o M } : Kp) = s6 at *
  clear f0 f1 f2
  replace sz : Has w6 (w.heap.size + 1) (clkC fun _ => 0) 87 := sz
  obtain ⟨a0, a1, a2, a3, a4, a5⟩ := s1.sth6 ht
  rw [HT6.out] at a0 a1 a2 a3 a4 a5
  obtain ⟨e0, e1, e2, e3, e4, e5⟩ := sz.clk
  obtain ⟨g0, g1, g2, g3, g4, g5⟩ := sz.clkFree
  go_wp2_with fail
  clear e0 e1 e2 e3 e4 e5 g0 g1 g2 g3 g4 g5 a0 a1 a2 a3 a4 a5
  refine end_ktook (w := w) (b := b) (c := w.heap.size + 1) (s := s6) (g := M) ?_ ?_ ?_ ?_
  · exact (((((s1.setCell_ne n1 _).setCell_ne n1 _).setCell_ne n1 _).setCell_ne n1 _).setCell_ne n1 _).setCell_ne n1 _
  · exact ((((((sz.setCell _ _).setCell _ _).setCell _ _).setCell _ _).setCell _ _).setCell _ _).to (by simp [clkC])
  · exact sGrownBy_setNew (sGrownBy_setNew (sGrownBy_setNew (sGrownBy_setNew (sGrownBy_setNew (sGrownBy_setNew sb (by simp) _) (by simp) _) (by simp) _) (by simp) _) (by simp) _) (by simp) _
  intro W hW hZ
  obtain ⟨c0, c1, c2, c3, c4, c5⟩ := hZ.clk
  exact bodyPost_ret (v := clkV M) (by simp [results, Tryz.results66, go_sem, c0, c1, c2, c3, c4, c5]) rfl ⟨by rw [HMM.out], by rw [HN6.out]; exact hW⟩

set_option maxRecDepth 100000 in
set_option maxHeartbeats 8000000 in
theorem ktakes6 (s : Kp) (t o : Nat) (b : Nat) (w : World) (h : Has w b (sKpC s) 135) (hB : SKB s) (ht : t < 6) (ho : o < 6) :
    Calls Tryz.prog 66 #[.pointer (some ⟨b, 0, none⟩), evV ⟨6, t, o⟩] w fun r w' => r = .returned (clkV (kMine s ⟨6, t, o⟩)) ∧ SKTook w w' b (kNext s ⟨6, t, o⟩) := by
  have hP : kPre s ⟨6, t, o⟩ = cmax (s.th t) (s.th o) := by simp [kPre]
  have hM : kMine s ⟨6, t, o⟩ = tickC (cmax (s.th t) (s.th o)) t := by rw [kMine, hP]; simp
  have HM := Lib.hid hM
  clear hM hP
  have bt := hB.th t t
  have bl := hB.lk o t
  have bv := hB.vo o t
  have bo := hB.th o t
  have bP : 0 ≤ (cmax (s.th t) (s.th o)) t ∧ (cmax (s.th t) (s.th o)) t ≤ 1000 := by (try simp only [cmax]); omega
  clear bt bl bv bo hB
  have h1 := h.alloc (.cells (evC ⟨6, t, o⟩) 55)
  have h0 := Has.new w (evC ⟨6, t, o⟩) 55
  have hb : Below w.heap.size w (w.alloc (.cells (evC ⟨6, t, o⟩) 55)) := (Below.refl _ _).alloc (by simp) _
  have hlt := h.lt
  have i0 : (0 : Int) ≤ t := by omega
  have i6 : (t : Int) < 6 := by omega
  have j0 : (0 : Int) ≤ o := by omega
  have j5 : (o : Int) < 6 := by omega
  have n0 : b ≠ w.heap.size := by omega
  have n1 : b ≠ w.heap.size + 1 := by omega
  go_enter Tryz.func66, Tryz.ntmps66
  go_wp2_with fail
  go_quiet (fail)
  go_wp2_with fail
  have hz := Has.new (w.alloc (.cells (evC ⟨6, t, o⟩) 55)) (clkC fun _ => 0) 87
  replace h1 := (h1.alloc (.cells (clkC fun _ => 0) 87)).drewN nq
  replace h0 := (h0.alloc (.cells (clkC fun _ => 0) 87)).drewN nq
  replace hz := (hz.at (c := w.heap.size + 1) (by simp)).drewN nq
  replace hb := grown_of (b := b) (below_drewN (hb.alloc (by simp) (.cells (clkC fun _ => 0) 87)) nq)
  generalize ((w.alloc (.cells (evC ⟨6, t, o⟩) 55)).alloc (.cells (clkC fun _ => 0) 87)).drewN nq = w1 at *
  have f2 : w1.cell? ⟨w.heap.size, 2, none⟩ = some (.int .i64 (o : Int)) := h0.cell rfl
  have f1 : w1.cell? ⟨w.heap.size, 1, none⟩ = some (.int .i64 (t : Int)) := h0.cell rfl
  have f0 : w1.cell? ⟨w.heap.size, 0, none⟩ = some (.int .i64 6) := h0.cell rfl
  obtain ⟨a0, a1, a2, a3, a4, a5⟩ := h1.sth6 ht
  obtain ⟨b0, b1, b2, b3, b4, b5⟩ := h1.sth6 ho
  go_region_law (first | (go_simp; go_at_call 98; refine (join_any (s.th t) (s.th o) _).mono ?_; rintro r w2 ⟨rfl, hk⟩; have q1 := h1.drew.below hk h1.lt; have q0 := h0.drew.below hk h0.lt; have qz := hz.drew.below hk hz.lt; have qb := hb.drewG.trans_below hk; obtain ⟨c0, c1, c2, c3, c4, c5⟩ := q1.sth6 ht; have z := q1.free))
  all_goals
    clear a0 a1 a2 a3 a4 a5 b0 b1 b2 b3 b4 b5 c0 c1 c2 c3 c4 c5 z f0 f1 f2
    have s1 := q1.setSix (t * 6) (cmax (s.th t) (s.th o)) _ (sKpF_setTh s ht (cmax (s.th t) (s.th o)))
    have s0 := q0.setCells_ne (b' := b) (Ne.symm n0) (clkC (cmax (s.th t) (s.th o))).toList (t * 6)
    have sz := qz.setCells_ne (b' := b) (Ne.symm n1) (clkC (cmax (s.th t) (s.th o))).toList (t * 6)
    have sb := grownBy_setCells qb (clkC (cmax (s.th t) (s.th o))).toList (t * 6)
    simp only [World.setCells, clkC, Nat.add_assoc, Nat.reduceAdd] at s1 s0 sz sb
    clear q1 q0 qz qb h1 h0 hz hb hk
    generalize ((((((w2.setCell _ _).setCell _ _).setCell _ _).setCell _ _).setCell _ _).setCell _ _) = w4 at *
    generalize hS1 : ({ s with th := updC s.th t (cmax (s.th t) (s.th o)) } : Kp) = sp at *
    have HS1 := Lib.hid hS1
    clear hS1
    clear w2
    have f2 : w4.cell? ⟨w.heap.size, 2, none⟩ = some (.int .i64 (o : Int)) := s0.cell rfl
    have f1 : w4.cell? ⟨w.heap.size, 1, none⟩ = some (.int .i64 (t : Int)) := s0.cell rfl
    have f0 : w4.cell? ⟨w.heap.size, 0, none⟩ = some (.int .i64 6) := s0.cell rfl
    have hpt : sp.th t t = (cmax (s.th t) (s.th o)) t := by rw [← HS1.out]; simp [updC]
    rw [← hpt] at bP
    have hw := IntWalk.i64_in (sp.th t t + 1) (by omega)
    have HPT := Lib.hid hpt
    clear hpt
    have d1 : w4.cell? ⟨b, t * 6 + t, none⟩ = some (.int .i64 (sp.th t t)) := by rw [s1.addI (by omega), sKpF_th sp ht ht]
    have d2 := s1.free (t * 6 + t)
    go_wp2_with fail
    go_region
    clear d1 d2 hw f0 f1 f2
    replace s1 : Has _ b (sKpC { s with th := updC s.th t (tickC (cmax (s.th t) (s.th o)) t) }) 135 := ((s1.setCell (t * 6 + t) (.int .i64 (sp.th t t + 1))).drew).to (by rw [rowI_set]; exact rowI_congr fun i hi => by rw [sKpF_tick s ht _ i hi, HPT.out, HS1.out])
    replace s0 := (s0.setCell_ne (a := ⟨b, t * 6 + t, none⟩) (Ne.symm n0) (.int .i64 (sp.th t t + 1))).drew
    replace sz := (sz.setCell_ne (a := ⟨b, t * 6 + t, none⟩) (Ne.symm n1) (.int .i64 (sp.th t t + 1))).drew
    replace sb := (grown_set (a := ⟨b, t * 6 + t, none⟩) sb rfl (.int .i64 (sp.th t t + 1))).drewG
    rw [← HM.out] at s1
    generalize (w4.setCell ⟨b, t * 6 + t, none⟩ (.int .i64 (sp.th t t + 1))).drew = w5 at *
    clear HPT HS1 bP
    have hq : ({ s with th := updC s.th t (kMine s ⟨6, t, o⟩) } : Kp).th t = kMine s ⟨6, t, o⟩ := by simp [updC]
    have hN : kNext s ⟨6, t, o⟩ = { s with th := updC s.th t (kMine s ⟨6, t, o⟩) } := by simp [kNext]
    rw [← hN] at s1 hq
    clear hN
    generalize hSn : kNext s ⟨6, t, o⟩ = sn at s1 hq
    have HSn := Lib.hid hSn
    clear hSn
    generalize hMM : kMine s ⟨6, t, o⟩ = M at hq
    have HMM := Lib.hid hMM
    clear HM hMM
    have f2 : w5.cell? ⟨w.heap.size, 2, none⟩ = some (.int .i64 (o : Int)) := s0.cell rfl
    have f1 : w5.cell? ⟨w.heap.size, 1, none⟩ = some (.int .i64 (t : Int)) := s0.cell rfl
    have f0 : w5.cell? ⟨w.heap.size, 0, none⟩ = some (.int .i64 6) := s0.cell rfl
    obtain ⟨a0, a1, a2, a3, a4, a5⟩ := s1.sth6 ht
    rw [hq] at a0 a1 a2 a3 a4 a5
    have HQ := Lib.hid hq
    clear hq
    replace sz : Has w5 (w.heap.size + 1) (clkC fun _ => 0) 87 := sz
    obtain ⟨e0, e1, e2, e3, e4, e5⟩ := sz.clk
    obtain ⟨g0, g1, g2, g3, g4, g5⟩ := sz.clkFree
    go_wp2_with fail
    clear e0 e1 e2 e3 e4 e5 g0 g1 g2 g3 g4 g5 a0 a1 a2 a3 a4 a5
    refine end_ktook (w := w) (b := b) (c := w.heap.size + 1) (s := sn) (g := M) ?_ ?_ ?_ ?_
    · exact (((((s1.setCell_ne n1 _).setCell_ne n1 _).setCell_ne n1 _).setCell_ne n1 _).setCell_ne n1 _).setCell_ne n1 _
    · exact ((((((sz.setCell _ _).setCell _ _).setCell _ _).setCell _ _).setCell _ _).setCell _ _).to (by simp [clkC])
    · exact sGrownBy_setNew (sGrownBy_setNew (sGrownBy_setNew (sGrownBy_setNew (sGrownBy_setNew (sGrownBy_setNew sb (by simp) _) (by simp) _) (by simp) _) (by simp) _) (by simp) _) (by simp) _
    intro W hW hZ
    obtain ⟨c0, c1, c2, c3, c4, c5⟩ := hZ.clk
    exact bodyPost_ret (v := clkV M) (by simp [results, Tryz.results66, go_sem, c0, c1, c2, c3, c4, c5]) rfl ⟨by rw [HMM.out], by rw [HSn.out]; exact hW⟩

set_option maxRecDepth 100000 in
set_option maxHeartbeats 8000000 in
theorem ktakes7 (s : Kp) (t o : Nat) (b : Nat) (w : World) (h : Has w b (sKpC s) 135) (hB : SKB s) (ht : t < 6) (ho : o < 4) :
    Calls Tryz.prog 66 #[.pointer (some ⟨b, 0, none⟩), evV ⟨7, t, o⟩] w fun r w' => r = .returned (clkV (kMine s ⟨7, t, o⟩)) ∧ SKTook w w' b (kNext s ⟨7, t, o⟩) := by
  have hP : kPre s ⟨7, t, o⟩ = cmax (s.th t) (s.vo o) := by simp [kPre]
  have hM : kMine s ⟨7, t, o⟩ = tickC (cmax (s.th t) (s.vo o)) t := by rw [kMine, hP]; simp
  have HM := Lib.hid hM
  clear hM hP
  have bt := hB.th t t
  have bl := hB.lk o t
  have bv := hB.vo o t
  have bo := hB.th o t
  have bP : 0 ≤ (cmax (s.th t) (s.vo o)) t ∧ (cmax (s.th t) (s.vo o)) t ≤ 1000 := by (try simp only [cmax]); omega
  clear bt bl bv bo hB
  have h1 := h.alloc (.cells (evC ⟨7, t, o⟩) 55)
  have h0 := Has.new w (evC ⟨7, t, o⟩) 55
  have hb : Below w.heap.size w (w.alloc (.cells (evC ⟨7, t, o⟩) 55)) := (Below.refl _ _).alloc (by simp) _
  have hlt := h.lt
  have i0 : (0 : Int) ≤ t := by omega
  have i6 : (t : Int) < 6 := by omega
  have j0 : (0 : Int) ≤ o := by omega
  have j5 : (o : Int) < 4 := by omega
  have n0 : b ≠ w.heap.size := by omega
  have n1 : b ≠ w.heap.size + 1 := by omega
  go_enter Tryz.func66, Tryz.ntmps66
  go_wp2_with fail
  go_quiet (fail)
  go_wp2_with fail
  have hz := Has.new (w.alloc (.cells (evC ⟨7, t, o⟩) 55)) (clkC fun _ => 0) 87
  replace h1 := (h1.alloc (.cells (clkC fun _ => 0) 87)).drewN nq
  replace h0 := (h0.alloc (.cells (clkC fun _ => 0) 87)).drewN nq
  replace hz := (hz.at (c := w.heap.size + 1) (by simp)).drewN nq
  replace hb := grown_of (b := b) (below_drewN (hb.alloc (by simp) (.cells (clkC fun _ => 0) 87)) nq)
  generalize ((w.alloc (.cells (evC ⟨7, t, o⟩) 55)).alloc (.cells (clkC fun _ => 0) 87)).drewN nq = w1 at *
  have f2 : w1.cell? ⟨w.heap.size, 2, none⟩ = some (.int .i64 (o : Int)) := h0.cell rfl
  have f1 : w1.cell? ⟨w.heap.size, 1, none⟩ = some (.int .i64 (t : Int)) := h0.cell rfl
  have f0 : w1.cell? ⟨w.heap.size, 0, none⟩ = some (.int .i64 7) := h0.cell rfl
  obtain ⟨a0, a1, a2, a3, a4, a5⟩ := h1.sth6 ht
  obtain ⟨b0, b1, b2, b3, b4, b5⟩ := h1.svo6 ho
  go_region_law (first | (go_simp; go_at_call 98; refine (join_any (s.th t) (s.vo o) _).mono ?_; rintro r w2 ⟨rfl, hk⟩; have q1 := h1.drew.below hk h1.lt; have q0 := h0.drew.below hk h0.lt; have qz := hz.drew.below hk hz.lt; have qb := hb.drewG.trans_below hk; obtain ⟨c0, c1, c2, c3, c4, c5⟩ := q1.sth6 ht; have z := q1.free))
  all_goals
    clear a0 a1 a2 a3 a4 a5 b0 b1 b2 b3 b4 b5 c0 c1 c2 c3 c4 c5 z f0 f1 f2
    have s1 := q1.setSix (t * 6) (cmax (s.th t) (s.vo o)) _ (sKpF_setTh s ht (cmax (s.th t) (s.vo o)))
    have s0 := q0.setCells_ne (b' := b) (Ne.symm n0) (clkC (cmax (s.th t) (s.vo o))).toList (t * 6)
    have sz := qz.setCells_ne (b' := b) (Ne.symm n1) (clkC (cmax (s.th t) (s.vo o))).toList (t * 6)
    have sb := grownBy_setCells qb (clkC (cmax (s.th t) (s.vo o))).toList (t * 6)
    simp only [World.setCells, clkC, Nat.add_assoc, Nat.reduceAdd] at s1 s0 sz sb
    clear q1 q0 qz qb h1 h0 hz hb hk
    generalize ((((((w2.setCell _ _).setCell _ _).setCell _ _).setCell _ _).setCell _ _).setCell _ _) = w4 at *
    generalize hS1 : ({ s with th := updC s.th t (cmax (s.th t) (s.vo o)) } : Kp) = sp at *
    have HS1 := Lib.hid hS1
    clear hS1
    clear w2
    have f2 : w4.cell? ⟨w.heap.size, 2, none⟩ = some (.int .i64 (o : Int)) := s0.cell rfl
    have f1 : w4.cell? ⟨w.heap.size, 1, none⟩ = some (.int .i64 (t : Int)) := s0.cell rfl
    have f0 : w4.cell? ⟨w.heap.size, 0, none⟩ = some (.int .i64 7) := s0.cell rfl
    have hpt : sp.th t t = (cmax (s.th t) (s.vo o)) t := by rw [← HS1.out]; simp [updC]
    rw [← hpt] at bP
    have hw := IntWalk.i64_in (sp.th t t + 1) (by omega)
    have HPT := Lib.hid hpt
    clear hpt
    have d1 : w4.cell? ⟨b, t * 6 + t, none⟩ = some (.int .i64 (sp.th t t)) := by rw [s1.addI (by omega), sKpF_th sp ht ht]
    have d2 := s1.free (t * 6 + t)
    go_wp2_with fail
    go_region
    clear d1 d2 hw f0 f1 f2
    replace s1 : Has _ b (sKpC { s with th := updC s.th t (tickC (cmax (s.th t) (s.vo o)) t) }) 135 := ((s1.setCell (t * 6 + t) (.int .i64 (sp.th t t + 1))).drew).to (by rw [rowI_set]; exact rowI_congr fun i hi => by rw [sKpF_tick s ht _ i hi, HPT.out, HS1.out])
    replace s0 := (s0.setCell_ne (a := ⟨b, t * 6 + t, none⟩) (Ne.symm n0) (.int .i64 (sp.th t t + 1))).drew
    replace sz := (sz.setCell_ne (a := ⟨b, t * 6 + t, none⟩) (Ne.symm n1) (.int .i64 (sp.th t t + 1))).drew
    replace sb := (grown_set (a := ⟨b, t * 6 + t, none⟩) sb rfl (.int .i64 (sp.th t t + 1))).drewG
    rw [← HM.out] at s1
    generalize (w4.setCell ⟨b, t * 6 + t, none⟩ (.int .i64 (sp.th t t + 1))).drew = w5 at *
    clear HPT HS1 bP
    have hq : ({ s with th := updC s.th t (kMine s ⟨7, t, o⟩) } : Kp).th t = kMine s ⟨7, t, o⟩ := by simp [updC]
    have hN : kNext s ⟨7, t, o⟩ = { s with th := updC s.th t (kMine s ⟨7, t, o⟩) } := by simp [kNext]
    rw [← hN] at s1 hq
    clear hN
    generalize hSn : kNext s ⟨7, t, o⟩ = sn at s1 hq
    have HSn := Lib.hid hSn
    clear hSn
    generalize hMM : kMine s ⟨7, t, o⟩ = M at hq
    have HMM := Lib.hid hMM
    clear HM hMM
    have f2 : w5.cell? ⟨w.heap.size, 2, none⟩ = some (.int .i64 (o : Int)) := s0.cell rfl
    have f1 : w5.cell? ⟨w.heap.size, 1, none⟩ = some (.int .i64 (t : Int)) := s0.cell rfl
    have f0 : w5.cell? ⟨w.heap.size, 0, none⟩ = some (.int .i64 7) := s0.cell rfl
    obtain ⟨a0, a1, a2, a3, a4, a5⟩ := s1.sth6 ht
    rw [hq] at a0 a1 a2 a3 a4 a5
    have HQ := Lib.hid hq
    clear hq
    replace sz : Has w5 (w.heap.size + 1) (clkC fun _ => 0) 87 := sz
    obtain ⟨e0, e1, e2, e3, e4, e5⟩ := sz.clk
    obtain ⟨g0, g1, g2, g3, g4, g5⟩ := sz.clkFree
    go_wp2_with fail
    clear e0 e1 e2 e3 e4 e5 g0 g1 g2 g3 g4 g5 a0 a1 a2 a3 a4 a5
    refine end_ktook (w := w) (b := b) (c := w.heap.size + 1) (s := sn) (g := M) ?_ ?_ ?_ ?_
    · exact (((((s1.setCell_ne n1 _).setCell_ne n1 _).setCell_ne n1 _).setCell_ne n1 _).setCell_ne n1 _).setCell_ne n1 _
    · exact ((((((sz.setCell _ _).setCell _ _).setCell _ _).setCell _ _).setCell _ _).setCell _ _).to (by simp [clkC])
    · exact sGrownBy_setNew (sGrownBy_setNew (sGrownBy_setNew (sGrownBy_setNew (sGrownBy_setNew (sGrownBy_setNew sb (by simp) _) (by simp) _) (by simp) _) (by simp) _) (by simp) _) (by simp) _
    intro W hW hZ
    obtain ⟨c0, c1, c2, c3, c4, c5⟩ := hZ.clk
    exact bodyPost_ret (v := clkV M) (by simp [results, Tryz.results66, go_sem, c0, c1, c2, c3, c4, c5]) rfl ⟨by rw [HMM.out], by rw [HSn.out]; exact hW⟩

end Go.Proofs.YtfjbnhacfficnaaGreatDoor
