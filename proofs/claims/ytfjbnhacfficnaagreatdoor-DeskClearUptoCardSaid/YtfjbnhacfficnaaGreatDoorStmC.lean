/- Contract of the keeper's takes: a Release; a Show. -/
import Derived.Test.YtfjbnhacfficnaaGreatDoorStmA
namespace Go.Proofs.YtfjbnhacfficnaaGreatDoor
open Go.RowKit

set_option maxRecDepth 100000 in
set_option maxHeartbeats 8000000 in
theorem ktakes8 (s : Kp) (t o : Nat) (b : Nat) (w : World) (h : Has w b (sKpC s) 135) (hB : SKB s) (ht : t < 6) (ho : o < 4) :
    Calls Tryz.prog 66 #[.pointer (some ⟨b, 0, none⟩), evV ⟨8, t, o⟩] w fun r w' => r = .returned (clkV (kMine s ⟨8, t, o⟩)) ∧ SKTook w w' b (kNext s ⟨8, t, o⟩) := by
  have hP : kPre s ⟨8, t, o⟩ = s.th t := by simp [kPre]
  have hM : kMine s ⟨8, t, o⟩ = tickC (s.th t) t := by rw [kMine, hP]; simp
  have HM := Lib.hid hM
  clear hM hP
  have bt := hB.th t t
  have bl := hB.lk o t
  have bv := hB.vo o t
  have bo := hB.th o t
  have bP : 0 ≤ (s.th t) t ∧ (s.th t) t ≤ 1000 := by (try simp only [cmax]); omega
  clear bt bl bv bo hB
  have h1 := h.alloc (.cells (evC ⟨8, t, o⟩) 55)
  have h0 := Has.new w (evC ⟨8, t, o⟩) 55
  have hb : Below w.heap.size w (w.alloc (.cells (evC ⟨8, t, o⟩) 55)) := (Below.refl _ _).alloc (by simp) _
  have hlt := h.lt
  have i0 : (0 : Int) ≤ t := by omega
  have i6 : (t : Int) < 6 := by omega
  have j0 : (0 : Int) ≤ o := by omega
  have j5 : (o : Int) < 4 := by omega
  have n0 : b ≠ w.heap.size := by omega
  have n1 : b ≠ w.heap.size + 1 := by omega
  go_enter Tryz.func66, Tryz.ntmps66
  go_wp2_with fail
  go_quiet (fail)
  go_wp2_with fail
  have hz := Has.new (w.alloc (.cells (evC ⟨8, t, o⟩) 55)) (clkC fun _ => 0) 87
  replace h1 := (h1.alloc (.cells (clkC fun _ => 0) 87)).drewN nq
  replace h0 := (h0.alloc (.cells (clkC fun _ => 0) 87)).drewN nq
  replace hz := (hz.at (c := w.heap.size + 1) (by simp)).drewN nq
  replace hb := grown_of (b := b) (below_drewN (hb.alloc (by simp) (.cells (clkC fun _ => 0) 87)) nq)
  generalize ((w.alloc (.cells (evC ⟨8, t, o⟩) 55)).alloc (.cells (clkC fun _ => 0) 87)).drewN nq = w1 at *
  have s1 : Has w1 b (sKpC { s with th := updC s.th t (s.th t) }) 135 := h1.to (rowI_congr fun i hi => (sKpF_same s ht i hi).symm)
  generalize hS1 : ({ s with th := updC s.th t (s.th t) } : Kp) = sp at *
  have HS1 := Lib.hid hS1
  clear hS1
  have s0 := h0
  have sz := hz
  have sb := hb
  clear h1 h0 hz hb
  have f2 : w1.cell? ⟨w.heap.size, 2, none⟩ = some (.int .i64 (o : Int)) := s0.cell rfl
  have f1 : w1.cell? ⟨w.heap.size, 1, none⟩ = some (.int .i64 (t : Int)) := s0.cell rfl
  have f0 : w1.cell? ⟨w.heap.size, 0, none⟩ = some (.int .i64 8) := s0.cell rfl
  have hpt : sp.th t t = (s.th t) t := by rw [← HS1.out]; simp [updC]
  rw [← hpt] at bP
  have hw := IntWalk.i64_in (sp.th t t + 1) (by omega)
  have HPT := Lib.hid hpt
  clear hpt
  have d1 : w1.cell? ⟨b, t * 6 + t, none⟩ = some (.int .i64 (sp.th t t)) := by rw [s1.addI (by omega), sKpF_th sp ht ht]
  have d2 := s1.free (t * 6 + t)
  go_wp2_with fail
  go_region
  clear d1 d2 hw f0 f1 f2
  replace s1 : Has _ b (sKpC { s with th := updC s.th t (tickC (s.th t) t) }) 135 := ((s1.setCell (t * 6 + t) (.int .i64 (sp.th t t + 1))).drew).to (by rw [rowI_set]; exact rowI_congr fun i hi => by rw [sKpF_tick s ht _ i hi, HPT.out, HS1.out])
  replace s0 := (s0.setCell_ne (a := ⟨b, t * 6 + t, none⟩) (Ne.symm n0) (.int .i64 (sp.th t t + 1))).drew
  replace sz := (sz.setCell_ne (a := ⟨b, t * 6 + t, none⟩) (Ne.symm n1) (.int .i64 (sp.th t t + 1))).drew
  replace sb := (grown_set (a := ⟨b, t * 6 + t, none⟩) sb rfl (.int .i64 (sp.th t t + 1))).drewG
  rw [← HM.out] at s1
  generalize (w1.setCell ⟨b, t * 6 + t, none⟩ (.int .i64 (sp.th t t + 1))).drew = w5 at *
  clear HPT HS1 bP
  have hq : ({ s with th := updC s.th t (kMine s ⟨8, t, o⟩) } : Kp).th t = kMine s ⟨8, t, o⟩ := by simp [updC]
  generalize hSn : ({ s with th := updC s.th t (kMine s ⟨8, t, o⟩) } : Kp) = sn at s1 hq
  have HSn := Lib.hid hSn
  clear hSn
  generalize hMM : kMine s ⟨8, t, o⟩ = M at hq
  have HMM := Lib.hid hMM
  clear HM hMM
  have f2 : w5.cell? ⟨w.heap.size, 2, none⟩ = some (.int .i64 (o : Int)) := s0.cell rfl
  have f1 : w5.cell? ⟨w.heap.size, 1, none⟩ = some (.int .i64 (t : Int)) := s0.cell rfl
  have f0 : w5.cell? ⟨w.heap.size, 0, none⟩ = some (.int .i64 8) := s0.cell rfl
  obtain ⟨a0, a1, a2, a3, a4, a5⟩ := s1.sth6 ht
  rw [hq] at a0 a1 a2 a3 a4 a5
  have HQ := Lib.hid hq
  clear hq
  obtain ⟨b0, b1, b2, b3, b4, b5⟩ := s1.svo6 ho
  go_wp2_with fail
  go_region_law (first | (go_simp; go_at_call 98; refine (join_any (sn.vo o) M _).mono ?_; rintro r w2 ⟨rfl, hk⟩; have q1 := s1.drew.below hk s1.lt; have q0 := s0.drew.below hk s0.lt; have qz := sz.drew.below hk sz.lt; have qb := sb.drewG.trans_below hk; obtain ⟨c0, c1, c2, c3, c4, c5⟩ := q1.svo6 ho; have z := q1.free; have p2 : w2.cell? ⟨w.heap.size, 2, none⟩ = some (.int .i64 (o : Int)) := q0.cell rfl))
  all_goals
    clear a0 a1 a2 a3 a4 a5 b0 b1 b2 b3 b4 b5 c0 c1 c2 c3 c4 c5 z p2 f0 f1 f2 s1 s0 sz sb hk
    have s1 := q1.setSix (66 + o * 6) (cmax (sn.vo o) M) _ (sKpF_setVo sn ho (cmax (sn.vo o) M))
    have s0 := q0.setCells_ne (b' := b) (Ne.symm n0) (clkC (cmax (sn.vo o) M)).toList (66 + o * 6)
    have sz := qz.setCells_ne (b' := b) (Ne.symm n1) (clkC (cmax (sn.vo o) M)).toList (66 + o * 6)
    have sb := grownBy_setCells qb (clkC (cmax (sn.vo o) M)).toList (66 + o * 6)
    simp only [World.setCells, clkC, Nat.add_assoc, Nat.reduceAdd] at s1 s0 sz sb
    clear q1 q0 qz qb
    generalize ((((((w2.setCell _ _).setCell _ _).setCell _ _).setCell _ _).setCell _ _).setCell _ _) = w6 at *
    have HT6 : Hid (({ sn with vo := updC sn.vo o (cmax (sn.vo o) M) } : Kp).th t = M) := HQ
    have HN6 : Hid (kNext s ⟨8, t, o⟩ = { sn with vo := updC sn.vo o (cmax (sn.vo o) M) }) := Lib.hid (by rw [← HSn.out, ← HMM.out]; simp [kNext])
    generalize ({ sn with vo := updC sn.vo o (cmax (sn.vo o) M) } : Kp) = s6 at *
    replace sz : Has w6 (w.heap.size + 1) (clkC fun _ => 0) 87 := sz
    obtain ⟨a0, a1, a2, a3, a4, a5⟩ := s1.sth6 ht
    rw [HT6.out] at a0 a1 a2 a3 a4 a5
    obtain ⟨e0, e1, e2, e3, e4, e5⟩ := sz.clk
    obtain ⟨g0, g1, g2, g3, g4, g5⟩ := sz.clkFree
    go_wp2_with fail
    clear e0 e1 e2 e3 e4 e5 g0 g1 g2 g3 g4 g5 a0 a1 a2 a3 a4 a5
    refine end_ktook (w := w) (b := b) (c := w.heap.size + 1) (s := s6) (g := M) ?_ ?_ ?_ ?_
    · exact (((((s1.setCell_ne n1 _).setCell_ne n1 _).setCell_ne n1 _).setCell_ne n1 _).setCell_ne n1 _).setCell_ne n1 _
    · exact ((((((sz.setCell _ _).setCell _ _).setCell _ _).setCell _ _).setCell _ _).setCell _ _).to (by simp [clkC])
    · exact sGrownBy_setNew (sGrownBy_setNew (sGrownBy_setNew (sGrownBy_setNew (sGrownBy_setNew (sGrownBy_setNew sb (by simp) _) (by simp) _) (by simp) _) (by simp) _) (by simp) _) (by simp) _
    intro W hW hZ
    obtain ⟨c0, c1, c2, c3, c4, c5⟩ := hZ.clk
    exact bodyPost_ret (v := clkV M) (by simp [results, Tryz.results66, go_sem, c0, c1, c2, c3, c4, c5]) rfl ⟨by rw [HMM.out], by rw [HN6.out]; exact hW⟩

end Go.Proofs.YtfjbnhacfficnaaGreatDoor
