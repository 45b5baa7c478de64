/- Joined texts. -/
import Derived.Test.YtoohconipcleiaaPgC
import Derived.Test.YtoohconipcleiaaPgE1
import Derived.Test.YtoohconipcleiaaPgE2
import Derived.Test.YtoohconipcleiaaPgE3
import Derived.Test.YtoohconipcleiaaPgE4
import Derived.Deep.MidRow
import Derived.Test.YtoohconipcleiaaMD
import Derived.DeepKeys
import Derived.Test.YtoohconipcleiaaMC

/- Contracts of Step, whole, and of Ended. -/
namespace Go.Proofs.Ytoohconipcleiaa
open Go.RowKit

theorem step_any (p : List (List Ev)) (s : PS) (n : Nat) (a : Option Addr) (c b : Nat) (R : List Value) (T : TypeId) (w0 w : World) (h : PgS w0 a p) (hb0 : Below w0.heap.size w0 w) (hbb : w0.heap.size ≤ b) (hs : Has w b (psR s R) T) (hp : OkP p) (hI : IP p s) (hc : canB p s n = true)
    (hv : -1000000000 ≤ s.has n ∧ s.has n ≤ 1000000000) :
    Calls Try.prog 47 #[.pointer (some ⟨b, 0, none⟩), .slice a p.length c, .int .i64 n] w (StepP w b T R (stepP p s n)) := by
  have hbad := nextB_op hp hI (canB_next hc)
  rw [Int.toNat_natCast] at hbad
  obtain ⟨o0, oM, _⟩ := bad_iff.1 hbad
  have hk := boundK_pos (show 0 < boundK (opN p s n).k by omega)
  rcases (by omega : (opN p s n).k = 1 ∨ (opN p s n).k = 2 ∨ (opN p s n).k = 3 ∨ (opN p s n).k = 4 ∨ (opN p s n).k = 5 ∨ (opN p s n).k = 6 ∨ (opN p s n).k = 7 ∨ (opN p s n).k = 8 ∨ (opN p s n).k = 9) with k | k | k | k | k | k | k | k | k
  · exact step_k1 p s n a c b R T w0 w h hb0 hbb hs hp hI hc k
  · exact step_k2 p s n a c b R T w0 w h hb0 hbb hs hp hI hc k
  · exact step_k3 p s n a c b R T w0 w h hb0 hbb hs hp hI hc k hv
  · exact step_k4 p s n a c b R T w0 w h hb0 hbb hs hp hI hc k
  · by_cases ho : s.owner (opN p s n).t.toNat = n + 1
    · exact step_k5y p s n a c b R T w0 w h hb0 hbb hs hp hI hc k ho
    · exact step_k5n p s n a c b R T w0 w h hb0 hbb hs hp hI hc k ho
  · by_cases ho : (opN p s n).t < p.length
    · cases hq : s.begun (opN p s n).t.toNat
      · exact step_k6y p s n a c b R T w0 w h hb0 hbb hs hp hI hc k ho hq
      · exact step_k6b p s n a c b R T w0 w h hb0 hbb hs hp hI hc k ho hq
    · exact step_k6a p s n a c b R T w0 w h hb0 hbb hs hp hI hc k ho
  · exact step_k7 p s n a c b R T w0 w h hb0 hbb hs hp hI hc k
  · exact step_k8 p s n a c b R T w0 w h hb0 hbb hs hp hI hc k
  · exact step_k9 p s n a c b R T w0 w h hb0 hbb hs hp hI hc k

abbrev endT : TypeId := 29
theorem endC_size (s : PS) (d k : Bool) : (endC s d k).size = 20 := by simp [endC]
theorem endC_get (s : PS) (d k : Bool) {i : Nat} (h : i < 20) : (endC s d k)[i]? = some (psF s d k i) := by simp [endC, h]
theorem endC_one (s : PS) (d k : Bool) : (endC s d k).all (·.oneCell') = true := by
  rw [Array.all_eq_true]
  intro i hi
  rw [endC_size] at hi
  have h := endC_get s d k hi
  rw [Array.getElem?_eq_getElem (by rw [endC_size]; exact hi), Option.some.injEq] at h
  rw [h]
  unfold psF
  repeat' split
  all_goals rfl
theorem endC_18 (s : PS) (d k d' : Bool) : (endC s d k).setIfInBounds 18 (.bool d') = endC s d' k := by
  apply Array.ext_getElem?
  intro j
  rw [Array.getElem?_setIfInBounds]
  by_cases e : 18 = j
  · subst e; rw [if_pos rfl, if_pos (by rw [endC_size]; omega), endC_get s d' k (by omega)]; rfl
  · rw [if_neg e]
    by_cases hj : j < 20
    · rw [endC_get s d k hj, endC_get s d' k hj]
      unfold psF
      rw [if_neg (show ¬ j = 18 from fun h => e h.symm), if_neg (show ¬ j = 18 from fun h => e h.symm)]
    · rw [Array.getElem?_eq_none (by rw [endC_size]; omega), Array.getElem?_eq_none (by rw [endC_size]; omega)]
theorem endC_19 (s : PS) (d k k' : Bool) : (endC s d k).setIfInBounds 19 (.bool k') = endC s d k' := by
  apply Array.ext_getElem?
  intro j
  rw [Array.getElem?_setIfInBounds]
  by_cases e : 19 = j
  · subst e; rw [if_pos rfl, if_pos (by rw [endC_size]; omega), endC_get s d k' (by omega)]; rfl
  · rw [if_neg e]
    by_cases hj : j < 20
    · rw [endC_get s d k hj, endC_get s d k' hj]
      unfold psF
      rw [if_neg (show ¬ j = 19 from fun h => e h.symm), if_neg (show ¬ j = 19 from fun h => e h.symm)]
    · rw [Array.getElem?_eq_none (by rw [endC_size]; omega), Array.getElem?_eq_none (by rw [endC_size]; omega)]
theorem ps_end {w : World} {b : Nat} {s : PS} {R : List Value} {T : TypeId} (h : Has w b (psR s R) T) : w.rangeAt b 0 (endC s false false).toList := by
  intro j v hv
  have hj : j < 20 := by
    have := (List.getElem?_eq_some_iff.1 hv).1
    simpa [endC_size] using this
  rw [Array.getElem?_toList, endC_get s false false hj] at hv
  rw [Nat.zero_add, ← hv]
  exact h.cell (psR_get s R (by omega))
def doneK (p : List (List Ev)) (s : PS) (k : Nat) : Bool := (List.range k).all fun t => !(nextB p s t)
def stillK (p : List (List Ev)) (s : PS) (k : Nat) : Bool := (List.range k).all fun t => !(canB p s t)
theorem doneK_succ (p : List (List Ev)) (s : PS) (k : Nat) : doneK p s (k + 1) = (doneK p s k && !(nextB p s k)) := by simp [doneK, List.range_succ]
theorem stillK_succ (p : List (List Ev)) (s : PS) (k : Nat) : stillK p s (k + 1) = (stillK p s k && !(canB p s k)) := by simp [stillK, List.range_succ]

set_option maxRecDepth 100000 in
set_option maxHeartbeats 8000000 in
theorem ended_any (p : List (List Ev)) (s : PS) (a : Option Addr) (c b : Nat) (R : List Value) (T : TypeId) (w : World) (h : PgS w a p) (hs : Has w b (psR s R) T) (hp : OkP p) (hI : IP p s) :
    Calls Try.prog 48 #[.pointer (some ⟨b, 0, none⟩), .slice a p.length c] w fun r w' => r = .returned (.agg (endC s (doneB p s) (stuckB p s))) ∧ Below w.heap.size w w' := by
  have h6 := hp.six
  have HP := Lib.hid hp
  have HI := Lib.hid hI
  have hlt := hs.lt
  have hbig := h.big
  clear hp hI
  go_enter Try.func48, Try.ntmps48
  go_upto_region 1 with fail
  generalize hW : w.alloc _ = W
  have hZ : Has W w.heap.size (endC PS.zero false false) endT := by rw [← hW]; exact (Has.new w _ _).to rfl
  have hb : Below w.heap.size w W := by rw [← hW]; exact (Below.refl _ _).alloc (Nat.le_refl _) _
  have hsz : W.heap.size = w.heap.size + 1 := by rw [← hW]; simp
  clear hW
  have hS := hs.below hb hs.lt
  have hr := ps_end hS
  obtain ⟨Y, hY⟩ : ∃ Y, endC s false false = Y := ⟨_, rfl⟩
  have hYs : Y.size = 20 := by rw [← hY]; exact endC_size _ _ _
  have hY1 : Y.all (·.oneCell') = true := by rw [← hY]; exact endC_one _ _ _
  rw [hY] at hr
  have HY := Lib.hid hY
  have HS := Lib.hid hYs
  have H1 := Lib.hid hY1
  clear hY hYs hY1
  go_wp2_with (first
    | (refine wpList_load_mid rfl endT _ rfl b 0 rfl Y.toList _ hr Try.underlying29 rfl (by rw [Array.length_toList, HS.out]; rfl) ?_; rw [Array.toArray_toList])
    | (refine wpList_store_row rfl endT _ _ rfl (w.heap.size + 1) Y rfl rfl endT _ ((Has.new W (endC PS.zero false false) endT).at hsz).out (by rw [HS.out]; rfl) (by rw [HS.out]; rfl) H1.out ?_
       generalize hW3 : World.setRow _ _ _ = W3
       have hE : Has W3 (w.heap.size + 1) (endC s false false) endT := by rw [← hW3, HY.out]; exact ((Has.new W (endC PS.zero false false) endT).at hsz).setRow
       have hb3 : Below w.heap.size w W3 := by rw [← hW3]; exact below_setRow (hb.alloc hb.size _) (Nat.le_succ _)
       have hZ3 : Has W3 w.heap.size (endC PS.zero false false) endT := by rw [← hW3]; exact ⟨by simp only [World.setRow, Array.getElem?_modify]; rw [if_neg (by omega)]; exact (hZ.alloc _).out⟩
       clear hW3 hb hr hZ hS hsz
       have c18 : W3.cell? ⟨w.heap.size + 1, 18, none⟩ = some (.bool false) := hE.cell (endC_get s false false (by omega))
       have c19 : W3.cell? ⟨w.heap.size + 1, 19, none⟩ = some (.bool false) := hE.cell (endC_get s false false (by omega))
       have f18 := hE.free 18
       have f19 := hE.free 19))
  generalize hW4 : World.setCell (World.setCell W3 _ _) _ _ = W4
  have hE4 : Has W4 (w.heap.size + 1) (endC s (doneK p s 0) (stillK p s 0)) endT := by
    rw [← hW4]; exact (((hE.setCell 18 (.bool true)).to (endC_18 s false false true)).setCell 19 (.bool true)).to (endC_19 s true false true)
  have hb4 : Below w.heap.size w W4 := by rw [← hW4]; exact (hb3.setCell (p := ⟨w.heap.size + 1, 18, none⟩) (Nat.le_succ _) _).setCell (p := ⟨w.heap.size + 1, 19, none⟩) (Nat.le_succ _) _
  have hZ4 : Has W4 w.heap.size (endC PS.zero false false) endT := by rw [← hW4]; exact (hZ3.setCell_ne (a := ⟨w.heap.size + 1, 18, none⟩) (by simp) _).setCell_ne (a := ⟨w.heap.size + 1, 19, none⟩) (by simp) _
  clear hW4 hE hb3 hZ3 c18 c19 f18 f19 HY HS H1
  go_loopw [15] (fun i wr => ∃ k : Nat, k ≤ p.length ∧ i = .int .i64 k ∧ Has wr (w.heap.size + 1) (endC s (doneK p s k) (stillK p s k)) endT ∧ Has wr w.heap.size (endC PS.zero false false) endT ∧ Below w.heap.size w wr) (fun i _ => p.length - (intOf i).toNat)
  case atStart => exact ⟨0, Nat.zero_le _, rfl, hE4, hZ4, hb4⟩
  case round =>
    clear hE4 hZ4 hb4
    obtain ⟨k, hk, rfl, hE, hZ, hb⟩ := hrel
    by_cases hlt2 : k < p.length
    · have hd := doneK_succ p s k
      have hst := stillK_succ p s k
      have k0 : (0 : Int) ≤ k := by omega
      have k1 : (k : Int) < p.length := by omega
      have hbs := hb.size
      cases hn : nextB p s k
      · have hcf : canB p s k = false := by unfold canB; rw [hn]; rfl
        rw [hn] at hd
        rw [hcf] at hst
        have HD := Lib.hid hd
        have HST := Lib.hid hst
        have HCF := Lib.hid hcf
        clear hd hst hcf
        go_wp2_with fail
        refine (next_no p s k a c b R T _ (h.below hb) (hs.below hb hs.lt) h6 hn).mono ?_
        rintro r w5 ⟨rfl, hk5⟩
        have hE5 := hE.below hk5 hE.lt
        have hZ5 := hZ.below hk5 hZ.lt
        have hb5 := hb.trans (hk5.mono hbs)
        have hs5 := hb5.size
        clear hE hZ hb hk5 hn
        go_wp2_with fail
        refine (can_any p s k a c b R T _ (h.below hb5) (hs.below hb5 hs.lt) HP.out HI.out).mono ?_
        rintro r w6 ⟨rfl, hk6⟩
        rw [HCF.out]
        have hE6 := hE5.below hk6 hE5.lt
        have hZ6 := hZ5.below hk6 hZ5.lt
        have hb6 := hb5.trans (hk6.mono hs5)
        clear hE5 hZ5 hb5 hk6
        go_wp2
        go_roundw
        case rel => exact ⟨k + 1, by omega, by go_num, hE6.to (by rw [HD.out, HST.out]; simp), hZ6, hb6⟩
        case measure => (simp [intOf]; try omega)
      · obtain ⟨_, t1, t2, _⟩ := nextB_iff.1 hn
        have hat := nextB_at HI.out hn
        rw [Int.toNat_natCast] at t2 hat
        rw [hn] at hd
        obtain ⟨q, hq⟩ : ∃ q, canB p s k = q := ⟨_, rfl⟩
        rw [hq] at hst
        have HD := Lib.hid hd
        have HST := Lib.hid hst
        have HCF := Lib.hid hq
        have HB := Lib.hid t2
        have HA := Lib.hid hat
        clear hd hst hq t1 t2 hat hn
        go_wp2_with fail
        refine (next_yes p s k a c b R T w _ h hb (hs.below hb hs.lt) h6 hlt2 HB.out HA.out).mono ?_
        rintro r w5 ⟨g, q5, rfl, _, hk5⟩
        have hE5 := hE.below hk5 hE.lt
        have hZ5 := hZ.below hk5 hZ.lt
        have hb5 := hb.trans (hk5.mono hbs)
        have c18 : w5.cell? ⟨w.heap.size + 1, 18, none⟩ = some (.bool (doneK p s k)) := hE5.cell (endC_get s _ _ (by omega))
        have f18 := hE5.free 18
        clear hE hZ hb hk5
        go_wp2_with fail
        generalize hW6 : World.setCell w5 _ _ = W6
        have hE6 : Has W6 (w.heap.size + 1) (endC s false (stillK p s k)) endT := by rw [← hW6]; exact (hE5.setCell 18 (.bool false)).to (endC_18 s _ _ false)
        have hZ6 : Has W6 w.heap.size (endC PS.zero false false) endT := by rw [← hW6]; exact hZ5.setCell_ne (a := ⟨w.heap.size + 1, 18, none⟩) (by simp) _
        have hb6 : Below w.heap.size w W6 := by rw [← hW6]; exact hb5.setCell (p := ⟨w.heap.size + 1, 18, none⟩) (Nat.le_succ _) _
        have hs6 := hb6.size
        clear hW6 hE5 hZ5 hb5 c18 f18
        refine (can_any p s k a c b R T _ (h.below hb6) (hs.below hb6 hs.lt) HP.out HI.out).mono ?_
        rintro r w7 ⟨rfl, hk7⟩
        rw [HCF.out]
        have hE7 := hE6.below hk7 hE6.lt
        have hZ7 := hZ6.below hk7 hZ6.lt
        have hb7 := hb6.trans (hk7.mono hs6)
        have c19 : w7.cell? ⟨w.heap.size + 1, 19, none⟩ = some (.bool (stillK p s k)) := hE7.cell (endC_get s _ _ (by omega))
        have f19 := hE7.free 19
        clear hE6 hZ6 hb6 hk7
        cases q
        · go_wp2
          go_roundw
          case rel => exact ⟨k + 1, by omega, by go_num, hE7.to (by rw [HD.out, HST.out]; simp), hZ7, hb7⟩
          case measure => (simp [intOf]; try omega)
        · go_wp2
          go_roundw
          case rel => exact ⟨k + 1, by omega, by go_num, ((hE7.setCell 19 (.bool false)).to (endC_19 s _ _ false)).to (by rw [HD.out, HST.out]; simp), hZ7.setCell_ne (a := ⟨w.heap.size + 1, 19, none⟩) (by simp) _, hb7.setCell (p := ⟨w.heap.size + 1, 19, none⟩) (Nat.le_succ _) _⟩
          case measure => (simp [intOf]; try omega)
    · obtain rfl : k = p.length := by omega
      have hd : doneK p s p.length = doneB p s := rfl
      have hst : stuckB p s = (stillK p s p.length && !(doneB p s)) := rfl
      rw [hd] at hE
      obtain ⟨D, hD⟩ : ∃ D, doneB p s = D := ⟨_, rfl⟩
      rw [hD] at hE hst
      have HDN := Lib.hid hD
      have HST := Lib.hid hst
      clear hd hst hD
      have hE2 := hE
      generalize stillK p s p.length = Q at *
      have c18 : wr.cell? ⟨w.heap.size + 1, 18, none⟩ = some (.bool D) := hE.cell (endC_get s _ _ (by omega))
      have c19 : wr.cell? ⟨w.heap.size + 1, 19, none⟩ = some (.bool Q) := hE.cell (endC_get s _ _ (by omega))
      have f19 := hE.free 19
      have hR : Hid (stuckB p s = (Q && !D)) := HST
      clear HST hE2
      cases Q
      · cases D
        · go_upto_region 12 with fail
          generalize hW5 : World.setCell wr _ _ = W5
          have hE5 : Has W5 (w.heap.size + 1) (endC s false false) endT := by rw [← hW5]; exact (hE.setCell 19 (.bool false)).to (endC_19 s _ _ _)
          have hZ5 : Has W5 w.heap.size (endC PS.zero false false) endT := by rw [← hW5]; exact hZ.setCell_ne (a := ⟨w.heap.size + 1, 19, none⟩) (by simp) _
          have hb5 : Below w.heap.size w W5 := by rw [← hW5]; exact hb.setCell (p := ⟨w.heap.size + 1, 19, none⟩) (Nat.le_succ _) _
          have HR2 : Hid (stuckB p s = false) := Lib.hid (by rw [hR.out]; rfl)
          clear hW5 hE hZ hb c18 c19 f19 hR
          refine wp_region_lit ?_
          refine wpList_load_row rfl endT _ rfl (w.heap.size + 1) rfl endT (endC s false false) (0, 0) _ hE5.out Try.underlying29 rfl (by rw [endC_size]; rfl) ?_
          refine wpList_store_row rfl endT _ _ rfl w.heap.size (endC s false false) rfl rfl endT _ hZ5.out (by rw [endC_size]; rfl) (by rw [endC_size, endC_size]) (endC_one _ _ _) ?_
          refine wpList_nil ?_
          have hb6 := below_setRow (cs := endC s false false) hb5 (Nat.le_refl _)
          have hR6 := hZ5.setRow (ds := endC s false false)
          generalize W5.setRow w.heap.size (endC s false false) = W6 at *
          obtain ⟨Y, hY⟩ : ∃ Y, endC s false false = Y := ⟨_, rfl⟩
          have hs : Y.size = 20 := by rw [← hY]; exact endC_size _ _ _
          have HY : Hid (Y = endC s false (stuckB p s)) := Lib.hid (by rw [HR2.out]; exact hY.symm)
          rw [hY] at hR6 ⊢
          clear hY hE5 hZ5 hb5
          go_wp2
          refine bodyPost_ret (results_cell_row rfl _ W6 w.heap.size endT Y _ _ rfl hR6.out Try.underlying29 rfl ?_) rfl ?_
          · rw [hs]; rfl
          exact ⟨by rw [HDN.out, HY.out], hb6⟩
        · go_upto_region 12 with fail
          generalize hW5 : World.setCell wr _ _ = W5
          have hE5 : Has W5 (w.heap.size + 1) (endC s true false) endT := by rw [← hW5]; exact (hE.setCell 19 (.bool false)).to (endC_19 s _ _ _)
          have hZ5 : Has W5 w.heap.size (endC PS.zero false false) endT := by rw [← hW5]; exact hZ.setCell_ne (a := ⟨w.heap.size + 1, 19, none⟩) (by simp) _
          have hb5 : Below w.heap.size w W5 := by rw [← hW5]; exact hb.setCell (p := ⟨w.heap.size + 1, 19, none⟩) (Nat.le_succ _) _
          have HR2 : Hid (stuckB p s = false) := Lib.hid (by rw [hR.out]; rfl)
          clear hW5 hE hZ hb c18 c19 f19 hR
          refine wp_region_lit ?_
          refine wpList_load_row rfl endT _ rfl (w.heap.size + 1) rfl endT (endC s true false) (0, 0) _ hE5.out Try.underlying29 rfl (by rw [endC_size]; rfl) ?_
          refine wpList_store_row rfl endT _ _ rfl w.heap.size (endC s true false) rfl rfl endT _ hZ5.out (by rw [endC_size]; rfl) (by rw [endC_size, endC_size]) (endC_one _ _ _) ?_
          refine wpList_nil ?_
          have hb6 := below_setRow (cs := endC s true false) hb5 (Nat.le_refl _)
          have hR6 := hZ5.setRow (ds := endC s true false)
          generalize W5.setRow w.heap.size (endC s true false) = W6 at *
          obtain ⟨Y, hY⟩ : ∃ Y, endC s true false = Y := ⟨_, rfl⟩
          have hs : Y.size = 20 := by rw [← hY]; exact endC_size _ _ _
          have HY : Hid (Y = endC s true (stuckB p s)) := Lib.hid (by rw [HR2.out]; exact hY.symm)
          rw [hY] at hR6 ⊢
          clear hY hE5 hZ5 hb5
          go_wp2
          refine bodyPost_ret (results_cell_row rfl _ W6 w.heap.size endT Y _ _ rfl hR6.out Try.underlying29 rfl ?_) rfl ?_
          · rw [hs]; rfl
          exact ⟨by rw [HDN.out, HY.out], hb6⟩
      · cases D
        · go_upto_region 12 with fail
          generalize hW5 : World.setCell wr _ _ = W5
          have hE5 : Has W5 (w.heap.size + 1) (endC s false true) endT := by rw [← hW5]; exact (hE.setCell 19 (.bool true)).to (endC_19 s _ _ _)
          have hZ5 : Has W5 w.heap.size (endC PS.zero false false) endT := by rw [← hW5]; exact hZ.setCell_ne (a := ⟨w.heap.size + 1, 19, none⟩) (by simp) _
          have hb5 : Below w.heap.size w W5 := by rw [← hW5]; exact hb.setCell (p := ⟨w.heap.size + 1, 19, none⟩) (Nat.le_succ _) _
          have HR2 : Hid (stuckB p s = true) := Lib.hid (by rw [hR.out]; rfl)
          clear hW5 hE hZ hb c18 c19 f19 hR
          refine wp_region_lit ?_
          refine wpList_load_row rfl endT _ rfl (w.heap.size + 1) rfl endT (endC s false true) (0, 0) _ hE5.out Try.underlying29 rfl (by rw [endC_size]; rfl) ?_
          refine wpList_store_row rfl endT _ _ rfl w.heap.size (endC s false true) rfl rfl endT _ hZ5.out (by rw [endC_size]; rfl) (by rw [endC_size, endC_size]) (endC_one _ _ _) ?_
          refine wpList_nil ?_
          have hb6 := below_setRow (cs := endC s false true) hb5 (Nat.le_refl _)
          have hR6 := hZ5.setRow (ds := endC s false true)
          generalize W5.setRow w.heap.size (endC s false true) = W6 at *
          obtain ⟨Y, hY⟩ : ∃ Y, endC s false true = Y := ⟨_, rfl⟩
          have hs : Y.size = 20 := by rw [← hY]; exact endC_size _ _ _
          have HY : Hid (Y = endC s false (stuckB p s)) := Lib.hid (by rw [HR2.out]; exact hY.symm)
          rw [hY] at hR6 ⊢
          clear hY hE5 hZ5 hb5
          go_wp2
          refine bodyPost_ret (results_cell_row rfl _ W6 w.heap.size endT Y _ _ rfl hR6.out Try.underlying29 rfl ?_) rfl ?_
          · rw [hs]; rfl
          exact ⟨by rw [HDN.out, HY.out], hb6⟩
        · go_upto_region 12 with fail
          generalize hW5 : World.setCell wr _ _ = W5
          have hE5 : Has W5 (w.heap.size + 1) (endC s true false) endT := by rw [← hW5]; exact (hE.setCell 19 (.bool false)).to (endC_19 s _ _ _)
          have hZ5 : Has W5 w.heap.size (endC PS.zero false false) endT := by rw [← hW5]; exact hZ.setCell_ne (a := ⟨w.heap.size + 1, 19, none⟩) (by simp) _
          have hb5 : Below w.heap.size w W5 := by rw [← hW5]; exact hb.setCell (p := ⟨w.heap.size + 1, 19, none⟩) (Nat.le_succ _) _
          have HR2 : Hid (stuckB p s = false) := Lib.hid (by rw [hR.out]; rfl)
          clear hW5 hE hZ hb c18 c19 f19 hR
          refine wp_region_lit ?_
          refine wpList_load_row rfl endT _ rfl (w.heap.size + 1) rfl endT (endC s true false) (0, 0) _ hE5.out Try.underlying29 rfl (by rw [endC_size]; rfl) ?_
          refine wpList_store_row rfl endT _ _ rfl w.heap.size (endC s true false) rfl rfl endT _ hZ5.out (by rw [endC_size]; rfl) (by rw [endC_size, endC_size]) (endC_one _ _ _) ?_
          refine wpList_nil ?_
          have hb6 := below_setRow (cs := endC s true false) hb5 (Nat.le_refl _)
          have hR6 := hZ5.setRow (ds := endC s true false)
          generalize W5.setRow w.heap.size (endC s true false) = W6 at *
          obtain ⟨Y, hY⟩ : ∃ Y, endC s true false = Y := ⟨_, rfl⟩
          have hs : Y.size = 20 := by rw [← hY]; exact endC_size _ _ _
          have HY : Hid (Y = endC s true (stuckB p s)) := Lib.hid (by rw [HR2.out]; exact hY.symm)
          rw [hY] at hR6 ⊢
          clear hY hE5 hZ5 hb5
          go_wp2
          refine bodyPost_ret (results_cell_row rfl _ W6 w.heap.size endT Y _ _ rfl hR6.out Try.underlying29 rfl ?_) rfl ?_
          · rw [hs]; rfl
          exact ⟨by rw [HDN.out, HY.out], hb6⟩
end Go.Proofs.Ytoohconipcleiaa

/- Contract of prog.Run. -/
namespace Go.Proofs.Ytoohconipcleiaa
open Go.RowKit

def errR (p : List (List Ev)) (n : Nat) : Int := if chkP p = 0 then (if 100 < n then 2 else 0) else chkP p
def endR (p : List (List Ev)) (picks : List Int) : Array Value :=
  if errR p picks.length = 0 then endC (runP p picks).1 (doneB p (runP p picks).1) (stuckB p (runP p picks).1) else endC PS.zero false false
def evR (p : List (List Ev)) (picks : List Int) : List Ev := if errR p picks.length = 0 then (runP p picks).2 else []
/-- What Run leaves. -/
def RunPost (p : List (List Ev)) (picks : List Int) (w : World) (r : Ending) (w' : World) : Prop :=
  ∃ a c, ((evR p picks).length ≤ c ∧ ∀ x : Addr, a = some x → w.heap.size ≤ x.block) ∧ r = .returned (.tuple #[.agg (endR p picks), .slice a (evR p picks).length c, .int .i64 (errR p picks.length)]) ∧ EvS w' a (evR p picks) ∧ Below w.heap.size w w'
theorem grown_setRow (w : World) (b : Nat) (cs : Array Value) : w.grownBy (w.setRow b cs) (some b) :=
  ⟨rfl, rfl, rfl, by simp [World.setRow], fun k _ hk => by simp only [World.setRow, Array.getElem?_modify]; rw [if_neg (fun e => hk (by rw [e]))]⟩
theorem results_row3 {P : Program} {fn : Func} {p q r : Tmp} {ty : TypeId} (h : fn.results = #[.cell p ty, .tmp q, .tmp r]) (tmps : Array Value) (w : World) (g : Nat) (t : TypeId) (cs : Array Value) (fr : Nat × Nat) (d : TypeDesc)
    (hp : tmps.getD p undef = .pointer (some ⟨g, 0, none⟩)) (hg : w.heap[g]? = some (.cells cs t fr))
    (hu : P.underlying ty = some d) (hd : (match d with | .struct _ | .array _ _ => true | _ => false) = true) (hi : (P.info? ty).map (·.size) = some cs.size) :
    (results fn tmps).run P w = .ok (.tuple #[.agg cs, tmps.getD q undef, tmps.getD r undef]) w := by
  have hp' : tmps[p]?.getD undef = .pointer (some ⟨g, 0, none⟩) := by simpa using hp
  simp [results, h, hp', asAddr, run_loadVar_row w g t ty cs fr d hg hu hd hi]

set_option maxRecDepth 100000 in
set_option maxHeartbeats 8000000 in
theorem run_bad (p : List (List Ev)) (picks : List Int) (a ap : Option Addr) (c cp : Nat) (w : World) (h : PgS w a p) (hq : IntS w ap picks) (he : errR p picks.length ≠ 0) :
    Calls Try.prog 16 #[.slice a p.length c, .slice ap picks.length cp] w (RunPost p picks w) := by
  have hE := Lib.hid (show endR p picks = endC PS.zero false false by unfold endR; rw [if_neg he])
  have hV := Lib.hid (show evR p picks = [] by unfold evR; rw [if_neg he])
  have hbig := hq.big
  obtain ⟨X, hX⟩ : ∃ X, chkP p = X := ⟨_, rfl⟩
  have hXR : errR p picks.length = if X = 0 then (if 100 < picks.length then 2 else 0) else X := by unfold errR; rw [hX]
  rw [hXR] at he
  have HX := Lib.hid hX
  clear hX
  have hZ := Has.new w (endC PS.zero false false) endT
  have hb := (Below.refl w.heap.size w).alloc (Nat.le_refl _) (.cells (endC PS.zero false false) endT)
  by_cases h0 : X = 0
  · subst h0
    rw [if_pos rfl] at hXR he
    have hl : 100 < picks.length := by
      by_cases c : 100 < picks.length
      · exact c
      · rw [if_neg c] at he; exact absurd rfl he
    rw [if_pos hl] at hXR
    have r1 : decide ((picks.length : Int) > 100) = true := decide_eq_true (by omega)
    have r2 : decide (100 < picks.length) = true := decide_eq_true hl
    have HR := Lib.hid hXR
    clear hXR he hl
    go_enter Try.func16, Try.ntmps16
    go_wp2_with fail
    refine (checkP_any p a c _ (h.below ((Below.refl _ _).alloc (Nat.le_refl _) _))).mono ?_
    rintro r w1 ⟨rfl, hk⟩
    rw [HX.out]
    have hZ1 : Has w1 w.heap.size (endC PS.zero false false) endT := Has.below (Has.to (Has.new w _ endT) rfl) hk (by simp)
    have hb1 : Below w.heap.size w w1 := ((Below.refl _ _).alloc (Nat.le_refl _) _).trans (hk.mono (by simp))
    clear hk hZ hb
    go_upto_region 5 with fail
    refine wp_region_lit ?_
    go_wp2_with (refine wpList_store_row rfl endT _ _ rfl w.heap.size (endC PS.zero false false) rfl rfl endT _ hZ1.out (by rw [endC_size]; rfl) (by rw [endC_size]) (endC_one _ _ _) ?_)
    have hb6 := below_setRow (cs := endC PS.zero false false) hb1 (Nat.le_refl _)
    have hR6 := hZ1.setRow (ds := endC PS.zero false false)
    generalize w1.setRow w.heap.size (endC PS.zero false false) = W6 at *
    obtain ⟨Y, hY⟩ : ∃ Y, endC PS.zero false false = Y := ⟨_, rfl⟩
    have hs : Y.size = 20 := by rw [← hY]; exact endC_size _ _ _
    have HE2 : Hid (endR p picks = Y) := Lib.hid (by rw [hE.out]; exact hY)
    rw [hY] at hR6
    clear hY hZ1 hb1 hE
    go_wp2
    refine bodyPost_ret (results_row3 rfl _ W6 w.heap.size endT Y _ _ rfl hR6.out Try.underlying29 rfl ?_) rfl ?_
    · rw [hs]; rfl
    refine ⟨none, 0, ⟨by rw [hV.out]; simp, fun x e => by cases e⟩, ?_, ?_, hb6⟩
    · rw [HE2.out, hV.out, HR.out]; rfl
    · rw [hV.out]; exact ⟨by simp, .inl rfl⟩
  · rw [if_neg h0] at hXR
    have r1 : (X == 0) = false := beq_eq_false_iff_ne.2 h0
    have r2 : (X != 0) = true := by simp [bne, r1]
    have HR := Lib.hid hXR
    clear hXR he h0
    go_enter Try.func16, Try.ntmps16
    go_wp2_with fail
    refine (checkP_any p a c _ (h.below ((Below.refl _ _).alloc (Nat.le_refl _) _))).mono ?_
    rintro r w1 ⟨rfl, hk⟩
    rw [HX.out]
    have hZ1 : Has w1 w.heap.size (endC PS.zero false false) endT := Has.below (Has.to (Has.new w _ endT) rfl) hk (by simp)
    have hb1 : Below w.heap.size w w1 := ((Below.refl _ _).alloc (Nat.le_refl _) _).trans (hk.mono (by simp))
    clear hk hZ hb
    go_upto_region 5 with fail
    refine wp_region_lit ?_
    go_wp2_with (refine wpList_store_row rfl endT _ _ rfl w.heap.size (endC PS.zero false false) rfl rfl endT _ hZ1.out (by rw [endC_size]; rfl) (by rw [endC_size]) (endC_one _ _ _) ?_)
    have hb6 := below_setRow (cs := endC PS.zero false false) hb1 (Nat.le_refl _)
    have hR6 := hZ1.setRow (ds := endC PS.zero false false)
    generalize w1.setRow w.heap.size (endC PS.zero false false) = W6 at *
    obtain ⟨Y, hY⟩ : ∃ Y, endC PS.zero false false = Y := ⟨_, rfl⟩
    have hs : Y.size = 20 := by rw [← hY]; exact endC_size _ _ _
    have HE2 : Hid (endR p picks = Y) := Lib.hid (by rw [hE.out]; exact hY)
    rw [hY] at hR6
    clear hY hZ1 hb1 hE
    go_wp2
    refine bodyPost_ret (results_row3 rfl _ W6 w.heap.size endT Y _ _ rfl hR6.out Try.underlying29 rfl ?_) rfl ?_
    · rw [hs]; rfl
    refine ⟨none, 0, ⟨by rw [hV.out]; simp, fun x e => by cases e⟩, ?_, ?_, hb6⟩
    · rw [HE2.out, hV.out, HR.out]; rfl
    · rw [hV.out]; exact ⟨by simp, .inl rfl⟩

set_option maxRecDepth 100000 in
set_option maxHeartbeats 8000000 in
theorem run_ok (p : List (List Ev)) (picks : List Int) (a ap : Option Addr) (c cp : Nat) (w : World) (h : PgS w a p) (hq : IntS w ap picks) (he : errR p picks.length = 0) :
    Calls Try.prog 16 #[.slice a p.length c, .slice ap picks.length cp] w (RunPost p picks w) := by
  have hX : chkP p = 0 := by
    unfold errR at he
    split at he
    · assumption
    · exact he
  have hl : picks.length ≤ 100 := by
    unfold errR at he
    rw [if_pos hX] at he
    split at he
    · cases he
    · omega
  have HP := Lib.hid (chkP_ok hX)
  have hE := Lib.hid (show endR p picks = endC (runP p picks).1 (doneB p (runP p picks).1) (stuckB p (runP p picks).1) by unfold endR; rw [if_pos he])
  have hV := Lib.hid (show evR p picks = (runP p picks).2 by unfold evR; rw [if_pos he])
  have HR := Lib.hid he
  have HX := Lib.hid hX
  have r1 : decide ((picks.length : Int) > 100) = false := decide_eq_false (by omega)
  have r2 : decide (100 < picks.length) = false := decide_eq_false (by omega)
  obtain ⟨i0, hi, hz0, hz1, hz2⟩ := info_parts infoE
  have hbig := hq.big
  clear he hX
  go_enter Try.func16, Try.ntmps16
  go_wp2_with fail
  refine (checkP_any p a c _ (h.below ((Below.refl _ _).alloc (Nat.le_refl _) _))).mono ?_
  rintro r w1 ⟨rfl, hk⟩
  rw [HX.out]
  have hZ1 : Has w1 w.heap.size (endC PS.zero false false) endT := Has.below (Has.to (Has.new w _ endT) rfl) hk (by simp)
  have hb1 : Below w.heap.size w w1 := ((Below.refl _ _).alloc (Nat.le_refl _) _).trans (hk.mono (by simp))
  clear hk
  go_wp2_with fail
  refine (firstP_any _).mono ?_
  rintro r w2 ⟨rfl, hk⟩
  have hZ2 := hZ1.below hk hZ1.lt
  have hb2 := hb1.trans (hk.mono hb1.size)
  clear hk hZ1 hb1
  obtain ⟨B, hB⟩ : ∃ B, w2.heap.size = B := ⟨_, rfl⟩
  have hwB : w.heap.size < B := by have := hZ2.lt; omega
  obtain ⟨Y, hY⟩ : ∃ Y, psC PS.first = Y := ⟨_, rfl⟩
  have hYs : Y.size = 37 := by rw [← hY]; exact psC_size _
  have hY1 : Y.all (·.oneCell') = true := by rw [← hY]; exact psC_one _
  rw [hY]
  have HY := Lib.hid hY
  have HS := Lib.hid hYs
  have H1 := Lib.hid hY1
  clear hY hYs hY1
  go_wp2_with (first
    | (refine wpList_store_row rfl psT _ _ rfl B Y rfl rfl psT _ ((Has.new w2 (psC PS.zero) psT).at hB).out (by rw [HS.out]; rfl) (by rw [HS.out, psC_size]) H1.out ?_
       generalize hW3 : World.setRow _ _ _ = W3
       have hS3 : Has W3 B (psR PS.first []) psT := by rw [← hW3, psR_nil, HY.out]; exact ((Has.new w2 (psC PS.zero) psT).at hB).setRow
       have hb3 : Below w.heap.size w W3 := by rw [← hW3]; exact below_setRow (hb2.alloc hb2.size _) (Nat.le_of_lt hwB)
       have hZ3 : Has W3 w.heap.size (endC PS.zero false false) endT := by rw [← hW3]; exact ⟨by simp only [World.setRow, Array.getElem?_modify]; rw [if_neg (by omega)]; exact (hZ2.alloc _).out⟩
       clear hW3 hb2 hZ2))
  have hO3 := World.ownsRow_nil W3 w.heap.size 36 3
  clear hB HY HS H1
  have hbig2 := h.big
  go_loopw [9, 30] (fun o i wr => ∃ k : Nat, k ≤ picks.length ∧ i = .int .i64 k ∧ wr.ownsRow w.heap.size 36 3 o (runP p (picks.take k)).2.length (evL (runP p (picks.take k)).2) ∧ Has wr B (psR (runP p (picks.take k)).1 []) psT ∧ Has wr w.heap.size (endC PS.zero false false) endT ∧ Below w.heap.size w wr) (fun _ i _ => picks.length - (intOf i).toNat)
  case atStart => exact ⟨0, Nat.zero_le _, rfl, by simpa [runP, evL] using hO3, by simpa [runP] using hS3, hZ3, hb3⟩
  case round =>
    clear hS3 hb3 hZ3 hO3
    obtain ⟨k, hk, rfl, hO, hS, hZ, hb⟩ := hrel
    by_cases hlt : k < picks.length
    · obtain ⟨qb, qo, rfl, hcell⟩ := (hq.below hb).at hlt
      have htk : picks.take (k + 1) = picks.take k ++ [picks[k]] := by rw [List.take_add_one, List.getElem?_eq_getElem hlt]; rfl
      have hr1 := runP_snoc p (picks.take k) picks[k]
      rw [← htk] at hr1
      have HN := Lib.hid hr1
      have hI := runP_IP HP.out (picks.take k)
      have hVB := runP_VB HP.out (picks.take k)
      have hvl := runP_len p (picks.take k)
      have htl : (picks.take k).length ≤ 100 := by simp; omega
      have hbb : ∀ i, -1000000000 ≤ (runP p (picks.take k)).1.has i ∧ (runP p (picks.take k)).1.has i ≤ 1000000000 := fun i => by have := (hVB i).2.2; omega
      have HBB := Lib.hid hbb
      have HI := Lib.hid hI
      have k0 : (0 : Int) ≤ k := by omega
      have k1 : (k : Int) < picks.length := by omega
      have hlen : (runP p (picks.take k)).2.length ≤ 100 := by omega
      clear htk hr1 hVB hbb hI hvl htl
      generalize runP p (picks.take k) = q at *
      obtain ⟨s, l⟩ := q
      generalize picks[k] = t at *
      simp only at hO hS hlen
      cases hcan : canB p s t
      · have HQ := Lib.hid (show runP p (picks.take (k + 1)) = (s, l) by rw [HN.out]; exact pickP_no hcan)
        go_wp2_with fail
        refine (can_any p s t a c B [] psT _ (h.below hb) hS HP.out HI.out).mono ?_
        rintro r w5 ⟨rfl, hk5⟩
        have hO5 := own_below hO hk5
        have hS5 := hS.below hk5 hS.lt
        have hZ5 := hZ.below hk5 hZ.lt
        have hb5 := hb.trans (hk5.mono hb.size)
        rw [hcan]
        clear hO hS hZ hb hk5 hcell hcan
        go_wp2
        go_roundw
        case rel => exact ⟨k + 1, by omega, by go_num, by rw [HQ.out]; exact hO5, by rw [HQ.out]; exact hS5, hZ5, hb5⟩
        case measure => (simp [intOf]; try omega)
      · obtain ⟨t0, t1, _⟩ := nextB_iff.1 (canB_next hcan)
        obtain ⟨n, rfl⟩ : ∃ n : Nat, t = n := ⟨t.toNat, by omega⟩
        have HQ := Lib.hid (show runP p (picks.take (k + 1)) = ((stepP p s n).1, l ++ (stepP p s n).2.toList) by rw [HN.out]; exact pickP_yes hcan)
        have HC := Lib.hid hcan
        clear t0 t1 HN
        go_wp2_with fail
        refine (can_any p s n a c B [] psT _ (h.below hb) hS HP.out HI.out).mono ?_
        rintro r w5 ⟨rfl, hk5⟩
        have hO5 := own_below hO hk5
        have hS5 := hS.below hk5 hS.lt
        have hZ5 := hZ.below hk5 hZ.lt
        have hb5 := hb.trans (hk5.mono hb.size)
        rw [hcan]
        clear hO hS hZ hb hk5 hcell hcan
        go_wp2_with fail
        refine (step_any p s n a c B [] psT w _ h hb5 (Nat.le_of_lt hwB) hS5 HP.out HI.out HC.out (HBB.out n)).mono ?_
        rintro r w6 ⟨rfl, hS6, hg6⟩
        have hne : u9.ownBlock ≠ some B := by
          intro e
          rcases hO5.2 with ⟨rfl, _⟩ | ⟨g, cap, cur, rfl, _, hh, _⟩
          · simp [Value.ownBlock] at e
          · simp [Value.ownBlock] at e
            subst e
            have := hh.symm.trans hS5.out
            injection this with this
            injection this with _ e2
            exact absurd e2 (by decide)
        have hO6 := hO5.kept hg6 (.inr hne)
        have hZ6 := hZ5.grown hg6 (by intro e; cases e; omega)
        have hb6 := hb5.grown hg6 hb5.size (fun k e => by cases e; omega)
        clear hO5 hS5 hZ5 hb5 hg6 HI HBB HC
        obtain ⟨⟨s', oe⟩, hst⟩ : ∃ q2, stepP p s n = q2 := ⟨_, rfl⟩
        rw [hst] at hS6
        have HQ2 := Lib.hid (show runP p (picks.take (k + 1)) = (s', l ++ oe.toList) by rw [HQ.out, hst])
        rw [hst]
        clear hst HQ
        cases oe with
        | none =>
          simp only [Option.getD_none, Option.isSome_none]
          have hb7 := hb6.alloc hb6.size (.cells (evC ⟨0, 0, 0⟩) 36)
          have hO7 := hO6.alloc (.cells (evC ⟨0, 0, 0⟩) 36)
          go_wp2
          go_roundw
          case rel => exact ⟨k + 1, by omega, by go_num, by rw [HQ2.out]; simpa using hO7, by rw [HQ2.out]; exact hS6.alloc _, hZ6.alloc _, hb7⟩
          case measure => (simp [intOf]; try omega)
        | some x =>
          simp only [Option.getD_some, Option.isSome_some]
          have hN := Has.new w6 (evC x) 36
          have hO7 := hO6.alloc (.cells (evC x) 36)
          have hS7 := hS6.alloc (.cells (evC x) 36)
          have hZ7 := hZ6.alloc (.cells (evC x) 36)
          have hb7 := hb6.alloc hb6.size (.cells (evC x) 36)
          have hs7 := hb7.size
          obtain ⟨x0, x1, x2⟩ : (w6.alloc (.cells (evC x) 36)).cell? ⟨w6.heap.size, 0, none⟩ = some (.int .i64 x.k) ∧ (w6.alloc (.cells (evC x) 36)).cell? ⟨w6.heap.size, 1, none⟩ = some (.int .i64 x.t) ∧ (w6.alloc (.cells (evC x) 36)).cell? ⟨w6.heap.size, 2, none⟩ = some (.int .i64 x.o) := ⟨hN.cell rfl, hN.cell rfl, hN.cell rfl⟩
          have hT := Has.new (w6.alloc (.cells (evC x) 36)) (evC x) 36
          rw [World.size_alloc] at hT
          have hb8 := hb7.alloc hs7 (.cells (evC x) 36)
          clear hO6 hS6 hZ6 hb6
          go_wp2_with (at_builtin; refine app_list _ rfl (.tmp 45) (.tmp 47) 30 rfl Try.underlying30 hi hz0 hz1 hz2 rfl (by decide) rfl (hO7.alloc _) rfl (news := evL [x]) ⟨rfl, .inr ⟨_, rfl, fun j u hu => hT.cell_add (by simpa [evL] using hu)⟩⟩ (by intro q hq; simp [evL] at hq; rcases hq with rfl | rfl | rfl <;> rfl) ?c3 ?c4 ?c5 ?_)
          case c3 => unfold maxLen; omega
          case c4 => omega
          case c5 => have := hb8.size; simp at this ⊢; omega
          intro v6 w9 hAp
          have hb9 := hAp.below (hO7.alloc _) hb8 (by have := hb8.size; simp at this ⊢; omega)
          have hS9 := (hS7.alloc (.cells (evC x) 36)).grown hAp.grown (Ne.symm hne)
          have hZ9 := (hZ7.alloc (.cells (evC x) 36)).grown hAp.grown (by
            intro e
            rcases hO7.2 with ⟨rfl, _⟩ | ⟨g, cap, cur, rfl, _, hh, _⟩
            · simp [Value.ownBlock] at e
            · simp [Value.ownBlock] at e
              subst e
              have := hh.symm.trans hZ7.out
              injection this with this
              injection this with _ e2
              exact absurd e2 (by decide))
          have hv6 : w9.ownsRow w.heap.size 36 3 v6 (runP p (picks.take (k + 1))).2.length (evL (runP p (picks.take (k + 1))).2) := by
            have := hAp.own
            rw [HQ2.out]
            simp only [Option.toList_some, List.length_append]
            rw [evL_append _ [x]]
            exact this
          clear hAp hT hb8 x0 x1 x2 hN hO7 hS7 hZ7 hb7 hne
          go_wp2
          go_roundw
          case rel => exact ⟨k + 1, by omega, by go_num, hv6, by rw [HQ2.out]; exact hS9, hZ9, hb9⟩
          case measure => (simp [intOf]; try omega)
    · obtain rfl : k = picks.length := by omega
      have hI := runP_IP HP.out picks
      have hvl := runP_len p picks
      rw [List.take_length] at hO hS
      obtain ⟨q, hq2⟩ : ∃ q, runP p picks = q := ⟨_, rfl⟩
      rw [hq2] at hO hS hI hvl
      have HV2 := Lib.hid (show evR p picks = q.2 by rw [hV.out, hq2])
      have HE2 := Lib.hid (show endR p picks = endC q.1 (doneB p q.1) (stuckB p q.1) by rw [hE.out, hq2])
      clear hE hV hq2
      obtain ⟨s, l⟩ := q
      simp only at hO hS hI hvl HV2 HE2
      obtain ⟨ao, co, rfl, hZo, _⟩ := evS_own hO (by omega)
      go_wp2_with fail
      refine (ended_any p s a c B [] psT _ (h.below hb) hS HP.out hI).mono ?_
      rintro r w5 ⟨rfl, hk5⟩
      have hZ5 := hZ.below hk5 hZ.lt
      have hb5 := hb.trans (hk5.mono hb.size)
      have hO5 := own_below hO hk5
      have hb6 := below_setRow (cs := endC s (doneB p s) (stuckB p s)) hb5 (Nat.le_refl _)
      have hR6 := hZ5.setRow (ds := endC s (doneB p s) (stuckB p s))
      have hO6 := hO5.kept (grown_setRow w5 w.heap.size (endC s (doneB p s) (stuckB p s))) (.inr (by
        intro e
        rcases hO5.2 with ⟨e1, _⟩ | ⟨g, cap, cur, e1, _, hh, _⟩
        · rw [e1] at e; simp [Value.ownBlock] at e
        · rw [e1] at e; simp [Value.ownBlock] at e
          subst e
          have := hh.symm.trans hZ5.out
          injection this with this
          injection this with _ e2
          exact absurd e2 (by decide)))
      have hcap : Hid (l.length ≤ co) := Lib.hid (by
        rcases hO6.2 with ⟨e1, hn⟩ | ⟨g, cap, cur, e1, _, _, hnc, _⟩
        · omega
        · injection e1 with _ _ e2; omega)
      obtain ⟨a2, c2, e2, hL6, hnew⟩ := evS_own hO6 (by omega)
      have HNEW := Lib.hid hnew
      clear hnew
      cases e2
      obtain ⟨Y, hY⟩ : ∃ Y, endC s (doneB p s) (stuckB p s) = Y := ⟨_, rfl⟩
      have hYs : Y.size = 20 := by rw [← hY]; exact endC_size _ _ _
      have hY1 : Y.all (·.oneCell') = true := by rw [← hY]; exact endC_one _ _ _
      rw [hY] at hb6 hR6 hL6 HE2 ⊢
      have HS := Lib.hid hYs
      have H1 := Lib.hid hY1
      clear hY hYs hY1 hO hO5 hO6 hS hZ hb hk5 hI hvl hZo
      go_wp2_with (refine wpList_store_row rfl endT _ _ rfl w.heap.size Y rfl rfl endT _ hZ5.out (by rw [HS.out]; rfl) (by rw [HS.out, endC_size]) H1.out ?_)
      generalize w5.setRow w.heap.size Y = W6 at *
      refine bodyPost_ret (results_row3 rfl _ W6 w.heap.size endT Y _ _ rfl hR6.out Try.underlying29 rfl (by rw [HS.out]; rfl)) rfl ?_
      refine ⟨ao, co, ⟨by rw [HV2.out]; exact hcap.out, fun x e => HNEW.out x.block (by rw [e]; rfl)⟩, ?_, by rw [HV2.out]; exact hL6, hb6⟩
      rw [HE2.out, HV2.out, HR.out]
      rfl
theorem run_any (p : List (List Ev)) (picks : List Int) (a ap : Option Addr) (c cp : Nat) (w : World) (h : PgS w a p) (hq : IntS w ap picks) :
    Calls Try.prog 16 #[.slice a p.length c, .slice ap picks.length cp] w (RunPost p picks w) := by
  by_cases he : errR p picks.length = 0
  · exact run_ok p picks a ap c cp w h hq he
  · exact run_bad p picks a ap c cp w h hq he
end Go.Proofs.Ytoohconipcleiaa

/- Equality of ends of runs, as the model runs it. -/
namespace Go.Proofs.Ytoohconipcleiaa
open Go.RowKit

theorem mapM_some {α β : Type} {f : α → Option β} {g : α → β} : ∀ {l : List α}, (∀ x ∈ l, f x = some (g x)) → l.mapM f = some (l.map g)
  | [], _ => rfl
  | x :: l, h => by
    rw [List.mapM_cons, h x (by simp), mapM_some fun y hy => h y (by simp [hy])]
    rfl
theorem drop_take {cs : List Value} {o n : Nat} {V : Nat → Value} (h : ∀ i, i < n → cs[o + i]? = some (V i)) : (cs.drop o).take n = (List.range n).map V := by
  apply List.ext_getElem?
  intro i
  rw [List.getElem?_take]
  by_cases hi : i < n
  · simp [hi, List.getElem?_drop, h i hi]
  · simp [hi]
theorem flatten_one {α β : Type} (f : α → β) : ∀ (l : List α), (l.map fun i => [f i]).flatten = l.map f
  | [] => rfl
  | x :: l => by simp [flatten_one f l]
theorem lits_row {P : Program} {t e : TypeId} {n d : Nat} {V : Nat → Value} {L : Nat → Lit} (hu : P.underlying t = some (.array n e)) (hc : P.cellsOf e = 1) (ht : P.cellsOf t = n) (h : ∀ i, i < n → P.keyLits d e [V i] = some [L i]) :
    P.keyLits (d + 1) t ((List.range n).map V) = some ((List.range n).map L) := by
  unfold Program.keyLits
  simp only [hu]
  rw [if_pos (by simp [ht])]
  rw [mapM_some (g := fun i => [L i]) (fun i hi => by
    have hin : i < n := List.mem_range.1 hi
    rw [hc, Nat.mul_one, drop_take (V := fun _ => V i) (fun j hj => by
      obtain rfl : j = 0 := by omega
      simp [hin])]
    exact h i hin)]
  simp only [Option.map_some, flatten_one]
theorem lit_int {P : Program} {e : TypeId} {d : Nat} (he : P.underlying e = some (.int .i64)) {x : Int} (hx : I64 x) : P.keyLits (d + 1) e [.int .i64 x] = some [.int .i64 x] := by
  unfold Program.keyLits
  simp [he, WalkArith.wf_i64 hx]
theorem lit_bool {P : Program} {e : TypeId} {d : Nat} (he : P.underlying e = some .bool) (x : Bool) : P.keyLits (d + 1) e [.bool x] = some [.bool x] := by
  unfold Program.keyLits
  simp only [he]
/-- What an end reads as. -/
def litE (s : PS) (d k : Bool) : List Lit := (List.range 8).map (fun i => Lit.int .i64 (s.mem i)) ++ ((List.range 4).map (fun i => Lit.int .i64 (s.vols i)) ++ ((List.range 6).map (fun i => Lit.int .i64 (s.has i)) ++ [.bool d, .bool k]))
def NumOk (s : PS) : Prop := ∀ i, I64 (s.mem i) ∧ I64 (s.vols i) ∧ I64 (s.has i)
theorem VB.ok {s : PS} {B : Int} (h : VB s B) (hB : B ≤ 9000000000000000000) : NumOk s := fun i => by
  have := h i
  unfold I64
  omega
theorem endC_at (s : PS) (d k : Bool) {i : Nat} (h : i < 20) : (endC s d k).toList[i]? = some (psF s d k i) := by rw [Array.getElem?_toList]; exact endC_get s d k h
set_option maxRecDepth 100000 in
theorem lits_end {s : PS} (hs : NumOk s) (d k : Bool) : Try.prog.keyLits 3 endT (endC s d k).toList = some (litE s d k) := by
  have h1 : Try.prog.keyLits 2 25 (((endC s d k).toList.drop 0).take (Try.prog.cellsOf 25)) = some ((List.range 8).map (fun i => Lit.int .i64 (s.mem i))) := by
    rw [show Try.prog.cellsOf 25 = 8 by kernel_rfl, drop_take (V := fun i => .int .i64 (s.mem i)) (fun i hi => by rw [Nat.zero_add, endC_at s d k (by omega)]; simp [psF, hi])]
    exact lits_row Try.underlying25 (by kernel_rfl) (by kernel_rfl) (fun i _ => lit_int Try.underlying3 (hs i).1)
  have h2 : Try.prog.keyLits 2 26 (((endC s d k).toList.drop 8).take (Try.prog.cellsOf 26)) = some ((List.range 4).map (fun i => Lit.int .i64 (s.vols i))) := by
    rw [show Try.prog.cellsOf 26 = 4 by kernel_rfl, drop_take (V := fun i => .int .i64 (s.vols i)) (fun i hi => by rw [endC_at s d k (by omega)]; unfold psF; rw [if_neg (by omega), if_pos (by omega), Nat.add_sub_cancel_left])]
    exact lits_row Try.underlying26 (by kernel_rfl) (by kernel_rfl) (fun i _ => lit_int Try.underlying3 (hs i).2.1)
  have h3 : Try.prog.keyLits 2 27 (((endC s d k).toList.drop 12).take (Try.prog.cellsOf 27)) = some ((List.range 6).map (fun i => Lit.int .i64 (s.has i))) := by
    rw [show Try.prog.cellsOf 27 = 6 by kernel_rfl, drop_take (V := fun i => .int .i64 (s.has i)) (fun i hi => by rw [endC_at s d k (by omega)]; unfold psF; rw [if_neg (by omega), if_neg (by omega), if_pos (by omega), Nat.add_sub_cancel_left])]
    exact lits_row Try.underlying27 (by kernel_rfl) (by kernel_rfl) (fun i _ => lit_int Try.underlying3 (hs i).2.2)
  have h4 : Try.prog.keyLits 2 4 (((endC s d k).toList.drop 18).take (Try.prog.cellsOf 4)) = some [.bool d] := by
    rw [show Try.prog.cellsOf 4 = 1 by kernel_rfl, drop_take (V := fun _ => .bool d) (fun i hi => by obtain rfl : i = 0 := (by omega); rw [endC_at s d k (by omega)]; rfl)]
    exact lit_bool Try.underlying4 d
  have h5 : Try.prog.keyLits 2 4 (((endC s d k).toList.drop 19).take (Try.prog.cellsOf 4)) = some [.bool k] := by
    rw [show Try.prog.cellsOf 4 = 1 by kernel_rfl, drop_take (V := fun _ => .bool k) (fun i hi => by obtain rfl : i = 0 := (by omega); rw [endC_at s d k (by omega)]; rfl)]
    exact lit_bool Try.underlying4 k
  unfold Program.keyLits
  simp only [Try.underlying29]
  rw [if_pos ⟨by simp [endC_size]; kernel_rfl, by kernel_rfl⟩]
  simp only [List.mapM_cons, List.mapM_nil, h1, h2, h3, h4, h5, Option.bind_eq_bind, Option.bind_some, Option.pure_def, Option.map_some]
  unfold litE
  simp
set_option maxRecDepth 100000 in
theorem end_deep : EqAt Try.prog 10000 endT := run_equalIn_deep 9997 3 endT (by kernel_rfl)
theorem endC_formed (s : PS) (d k : Bool) : (Value.agg (endC s d k)).formed Try.prog endT = true := by simp only [Value.formed, Try.underlying29]; rw [endC_size]; kernel_rfl
/-- Two ends are equal where what they read as is. -/
theorem eql_end {s s' : PS} (hs : NumOk s) (hs' : NumOk s') (d k d' k' : Bool) (w : World) :
    ∃ r : Bool, (binOp .eql endT (.agg (endC s d k)) (.agg (endC s' d' k'))).run Try.prog w = .ok (.bool r) w ∧ (r = true ↔ litE s d k = litE s' d' k') := by
  obtain ⟨r, hr, hiff⟩ := end_deep w 3 3 (.agg (endC s d k)) (.agg (endC s' d' k')) _ _ (endC_formed s d k) (endC_formed s' d' k') (lits_end hs d k) (lits_end hs' d' k')
  refine ⟨r, ?_, hiff⟩
  rw [run_eql_struct]
  generalize hD : (10000 : Nat) = D at *
  rw [hr]
  rfl
theorem eql_end_refl {s : PS} (hs : NumOk s) (d k : Bool) (w : World) : (binOp .eql endT (.agg (endC s d k)) (.agg (endC s d k))).run Try.prog w = .ok (.bool true) w := by
  obtain ⟨r, hr, hiff⟩ := eql_end hs hs d k d k w
  rw [hr, hiff.2 rfl]
theorem wpList_yes {P : Program} {ops : Array Oper} {Q : Exit → Act → World → Prop} {a : Act} {w : World} {rest : List Oper} {o : Oper} (hw : Region.wanted o (yielded ops a.tmps) = true)
    (h : ∀ K : Act → World → Prop, (∀ a w, wpList P ops Q rest a w → K a w) → o.wp P a w K Q) : wpList P ops Q (o :: rest) a w := wpList_step fun K hK => by rw [if_pos hw]; exact h K hK
theorem zero_ok : NumOk PS.zero := fun i => by unfold I64; simp [PS.zero]
/-- The end that Run answers is equal to itself. -/
theorem eql_endR (p : List (List Ev)) (picks : List Int) (w : World) : (binOp .eql endT (.agg (endR p picks)) (.agg (endR p picks))).run Try.prog w = .ok (.bool true) w := by
  by_cases he : errR p picks.length = 0
  · have hX : chkP p = 0 := by
      unfold errR at he
      split at he
      · assumption
      · exact he
    have hl : picks.length ≤ 100 := by
      unfold errR at he
      rw [if_pos hX] at he
      split at he
      · cases he
      · omega
    unfold endR
    rw [if_pos he]
    exact eql_end_refl ((runP_VB (chkP_ok hX) picks).ok (by omega)) _ _ w
  · unfold endR
    rw [if_neg he]
    exact eql_end_refl zero_ok _ _ w
set_option maxRecDepth 100000 in
/-- An end, loaded whole. -/
theorem Has.loadEnd {w : World} {B : Nat} {Y : Array Value} (h : Has w B Y endT) (hs : Y.size = 20) : (Instr.loadAt endT (.pointer (some ⟨B, 0, none⟩))).run Try.prog w = .ok (.agg Y) w := by
  have hr : w.rangeAt B 0 Y.toList := fun j v hv => by
    rw [Array.getElem?_toList] at hv
    rw [Nat.zero_add]
    exact h.cell hv
  have := run_loadAt_mid (P := Try.prog) w B 0 endT Y.toList _ hr Try.underlying29 rfl (by rw [Array.length_toList, hs]; rfl)
  rw [Array.toArray_toList] at this
  exact this
theorem endR_size (p : List (List Ev)) (picks : List Int) : (endR p picks).size = 20 := by unfold endR; split <;> exact endC_size _ _ _
theorem endR_one (p : List (List Ev)) (picks : List Int) : (endR p picks).all (·.oneCell') = true := by unfold endR; split <;> exact endC_one _ _ _
end Go.Proofs.Ytoohconipcleiaa

/- Arrays of eight and of four ints: their cells, their equality. -/
namespace Go.Proofs.Ytoohconipcleiaa
open Go.RowKit

/-- 8 ints. -/
abbrev ar8 (f : Nat → Int) : Array Value := #[.int .i64 (f 0), .int .i64 (f 1), .int .i64 (f 2), .int .i64 (f 3), .int .i64 (f 4), .int .i64 (f 5), .int .i64 (f 6), .int .i64 (f 7)]
theorem ar8_row (f : Nat → Int) : (ar8 f).toList = (List.range 8).map fun i => Value.int .i64 (f i) := rfl
theorem ar8_get (f : Nat → Int) {i : Nat} (h : i < 8) : (ar8 f)[i]? = some (.int .i64 (f i)) := by
  rw [← Array.getElem?_toList, ar8_row]; simp [h]
theorem ar8_set (f : Nat → Int) {k : Nat} (h : k < 8) (x : Int) : (ar8 f).setIfInBounds k (.int .i64 x) = ar8 fun i => if i = k then x else f i := by
  apply Array.ext_getElem?
  intro j
  rw [Array.getElem?_setIfInBounds]
  by_cases e : k = j
  · subst e
    rw [if_pos rfl, if_pos (by simpa using h), ar8_get _ h, if_pos rfl]
  · rw [if_neg e]
    by_cases hj : j < 8
    · rw [ar8_get _ hj, ar8_get _ hj, if_neg (fun h => e h.symm)]
    · rw [Array.getElem?_eq_none (by simp; omega), Array.getElem?_eq_none (by simp; omega)]
theorem ar8_congr {f g : Nat → Int} (h : ∀ i, i < 8 → f i = g i) : ar8 f = ar8 g := by
  apply Array.ext_getElem?
  intro j
  by_cases hj : j < 8
  · rw [ar8_get _ hj, ar8_get _ hj, h j hj]
  · rw [Array.getElem?_eq_none (by simp; omega), Array.getElem?_eq_none (by simp; omega)]
set_option maxRecDepth 100000 in
theorem ar8_deep : EqAt Try.prog 10000 25 := run_equalIn_deep 9998 2 25 (by kernel_rfl)
theorem eql_ar8 {f : Nat → Int} (hf : ∀ i, i < 8 → I64 (f i)) (w : World) : (binOp .eql 25 (.agg (ar8 f)) (.agg (ar8 f))).run Try.prog w = .ok (.bool true) w := by
  have hl : Try.prog.keyLits 2 25 (ar8 f).toList = some ((List.range 8).map fun i => Lit.int .i64 (f i)) := by
    rw [ar8_row]
    exact lits_row Try.underlying25 (by kernel_rfl) (by kernel_rfl) (fun i hi => lit_int Try.underlying3 (hf i hi))
  have hF : (Value.agg (ar8 f)).formed Try.prog 25 = true := by simp only [Value.formed, Try.underlying25]; kernel_rfl
  obtain ⟨r, hr, hiff⟩ := ar8_deep w 2 2 (.agg (ar8 f)) (.agg (ar8 f)) _ _ hF hF hl hl
  rw [run_eql_struct]
  generalize hD : (10000 : Nat) = D at *
  rw [hr]
  have := hiff.2 rfl
  subst this
  rfl
/-- 4 ints. -/
abbrev ar4 (f : Nat → Int) : Array Value := #[.int .i64 (f 0), .int .i64 (f 1), .int .i64 (f 2), .int .i64 (f 3)]
theorem ar4_row (f : Nat → Int) : (ar4 f).toList = (List.range 4).map fun i => Value.int .i64 (f i) := rfl
theorem ar4_get (f : Nat → Int) {i : Nat} (h : i < 4) : (ar4 f)[i]? = some (.int .i64 (f i)) := by
  rw [← Array.getElem?_toList, ar4_row]; simp [h]
theorem ar4_set (f : Nat → Int) {k : Nat} (h : k < 4) (x : Int) : (ar4 f).setIfInBounds k (.int .i64 x) = ar4 fun i => if i = k then x else f i := by
  apply Array.ext_getElem?
  intro j
  rw [Array.getElem?_setIfInBounds]
  by_cases e : k = j
  · subst e
    rw [if_pos rfl, if_pos (by simpa using h), ar4_get _ h, if_pos rfl]
  · rw [if_neg e]
    by_cases hj : j < 4
    · rw [ar4_get _ hj, ar4_get _ hj, if_neg (fun h => e h.symm)]
    · rw [Array.getElem?_eq_none (by simp; omega), Array.getElem?_eq_none (by simp; omega)]
theorem ar4_congr {f g : Nat → Int} (h : ∀ i, i < 4 → f i = g i) : ar4 f = ar4 g := by
  apply Array.ext_getElem?
  intro j
  by_cases hj : j < 4
  · rw [ar4_get _ hj, ar4_get _ hj, h j hj]
  · rw [Array.getElem?_eq_none (by simp; omega), Array.getElem?_eq_none (by simp; omega)]
set_option maxRecDepth 100000 in
theorem ar4_deep : EqAt Try.prog 10000 26 := run_equalIn_deep 9998 2 26 (by kernel_rfl)
theorem eql_ar4 {f : Nat → Int} (hf : ∀ i, i < 4 → I64 (f i)) (w : World) : (binOp .eql 26 (.agg (ar4 f)) (.agg (ar4 f))).run Try.prog w = .ok (.bool true) w := by
  have hl : Try.prog.keyLits 2 26 (ar4 f).toList = some ((List.range 4).map fun i => Lit.int .i64 (f i)) := by
    rw [ar4_row]
    exact lits_row Try.underlying26 (by kernel_rfl) (by kernel_rfl) (fun i hi => lit_int Try.underlying3 (hf i hi))
  have hF : (Value.agg (ar4 f)).formed Try.prog 26 = true := by simp only [Value.formed, Try.underlying26]; kernel_rfl
  obtain ⟨r, hr, hiff⟩ := ar4_deep w 2 2 (.agg (ar4 f)) (.agg (ar4 f)) _ _ hF hF hl hl
  rw [run_eql_struct]
  generalize hD : (10000 : Nat) = D at *
  rw [hr]
  have := hiff.2 rfl
  subst this
  rfl
end Go.Proofs.Ytoohconipcleiaa

/- A run told again by its events: its numbers are small; in the end it has the run's memory. No program. -/
namespace Go.Proofs.Ytoohconipcleiaa

theorem addsF_le {z : List Ev} (h : ∀ e ∈ z, -1000 ≤ e.o ∧ e.o ≤ 1000) (i : Nat) : ∀ j, i ≤ j → j ≤ z.length → -(1000 * ((j - i : Nat) : Int)) ≤ addsF z i j ∧ addsF z i j ≤ 1000 * ((j - i : Nat) : Int)
  | 0, hij, _ => by
    obtain rfl : i = 0 := by omega
    simp [addsF_self]
  | j + 1, hij, hj => by
    by_cases e : i = j + 1
    · subst e; simp [addsF_self]
    · have ih := addsF_le h i j (by omega) (by omega)
      rw [addsF_succ (by omega) (show j < z.length by omega)]
      have ho := h _ (List.getElem_mem (show j < z.length by omega))
      split <;> omega
structure RB (r : RS) (B : Int) : Prop where
  mem : ∀ i, -B ≤ r.mem i ∧ r.mem i ≤ B
  vols : ∀ i, -B ≤ r.vols i ∧ r.vols i ≤ B
  has : ∀ i, -B ≤ r.has i ∧ r.has i ≤ B
theorem ops_small {p : List (List Ev)} (hp : OkP p) (t : Nat) : ∀ e ∈ opsP p t, -1000 ≤ e.o ∧ e.o ≤ 1000 := by
  intro e he
  have hm : opsP p t ∈ p ∨ opsP p t = [] := by
    unfold opsP
    rw [List.getD_eq_getElem?_getD]
    by_cases c : t < p.length
    · rw [List.getElem?_eq_getElem c]; exact .inl (List.getElem_mem c)
    · rw [List.getElem?_eq_none (by omega)]; exact .inr rfl
  rcases hm with hm | hm
  · obtain ⟨_, _, h3, h4⟩ := bad_iff.1 (hp.op _ hm e he)
    have := mostK_le e.k
    omega
  · rw [hm] at he; cases he
theorem RB.step {p : List (List Ev)} (hp : OkP p) {r : RS} {B : Int} (h : RB r B) (x : Ev) (hat : r.at_ x.t.toNat ≤ plen p x.t.toNat) : RB (rstep p r x) (B + 12000) := by
  have hF := findF_le (z := opsP p x.t.toNat) (x := x) (i := r.at_ x.t.toNat) (by rw [opsP_len]; exact hat)
  have hG := findF_ge (opsP p x.t.toNat) x (r.at_ x.t.toNat)
  have hA := addsF_le (ops_small hp x.t.toNat) (r.at_ x.t.toNat) _ hG hF
  have hL := hp.plen x.t.toNat
  rw [opsP_len] at hF
  have hH : -(B + 12000) ≤ rHas p r x ∧ rHas p r x ≤ B + 12000 := by
    unfold rHas
    have := h.has x.t.toNat
    omega
  refine ⟨fun i => ?_, fun i => ?_, fun i => ?_⟩
  · show _ ≤ (if x.k = 2 then upZ r.mem x.o.toNat (rHas p r x) else r.mem) i ∧ (if x.k = 2 then upZ r.mem x.o.toNat (rHas p r x) else r.mem) i ≤ _
    have := h.mem i
    split
    · unfold upZ; split
      · exact hH
      · omega
    · omega
  · show _ ≤ (if x.k = 8 then upZ r.vols x.o.toNat (rHas p r x) else r.vols) i ∧ (if x.k = 8 then upZ r.vols x.o.toNat (rHas p r x) else r.vols) i ≤ _
    have := h.vols i
    split
    · unfold upZ; split
      · exact hH
      · omega
    · omega
  · show _ ≤ upZ r.has x.t.toNat _ i ∧ upZ r.has x.t.toNat _ i ≤ _
    have := h.has i
    have := h.mem x.o.toNat
    have := h.vols x.o.toNat
    unfold upZ; split
    · split
      · omega
      · split
        · omega
        · exact hH
    · omega
theorem replay_small {p : List (List Ev)} (hp : OkP p) {l : List Ev} (h : OrdR p l) : ∀ j, j ≤ l.length → RB (replay p (l.take j)) (12000 * (j : Int))
  | 0, _ => ⟨fun i => by simp [replay, RS.first], fun i => by simp [replay, RS.first], fun i => by simp [replay, RS.first]⟩
  | j + 1, hj => by
    have hlt : j < l.length := by omega
    rw [List.take_succ_eq_append_getElem hlt, replay_snoc]
    have := (replay_small hp h j (by omega)).step hp l[j] (replay_le h j (by omega) _)
    have e : (12000 * ((j + 1 : Nat) : Int)) = 12000 * (j : Int) + 12000 := by omega
    rw [e]; exact this
/-- The end has the memory that is told again. -/
theorem replay_end {p : List (List Ev)} {l : List Int} (he : errR p l.length = 0) (hp : OkP p) :
    (∀ i, i < 8 → (endR p l)[i]? = some (.int .i64 ((replay p (evR p l)).mem i))) ∧ (∀ i, i < 4 → (endR p l)[8 + i]? = some (.int .i64 ((replay p (evR p l)).vols i))) := by
  have hE : endR p l = endC (runP p l).1 (doneB p (runP p l).1) (stuckB p (runP p l).1) := by unfold endR; rw [if_pos he]
  have hV : evR p l = (runP p l).2 := by unfold evR; rw [if_pos he]
  have hR := runP_replay hp l
  rw [hE, hV]
  refine ⟨fun i hi => ?_, fun i hi => ?_⟩
  · rw [endC_get _ _ _ (by omega)]; unfold psF; rw [if_pos hi, hR.mem]
  · rw [endC_get _ _ _ (by omega)]; unfold psF; rw [if_neg (by omega), if_pos (by omega), Nat.add_sub_cancel_left, hR.vols]
/-- An op that tells an event is no addition. -/
theorem match_k3 {o x : Ev} (hx : isEv x = true) (h : matchB o x = true) : o.k ≠ 3 := by
  intro e
  unfold matchB at h
  rw [e, Bool.and_eq_true, beq_iff_eq, beq_iff_eq] at h
  obtain ⟨_, _, _, h4⟩ := isEv_iff.1 hx
  have h0 : x.k = 0 := h.1.symm
  rw [h0] at h4
  have : manyOf 0 = 0 := rfl
  obtain ⟨_, _, h3, _⟩ := isEv_iff.1 hx
  omega
end Go.Proofs.Ytoohconipcleiaa
