/- Contracts of Step, whole, and of Ended. -/
import Derived.Test.YthfeakfakjecoaaPgC
import Derived.Test.YthfeakfakjecoaaPgE1
import Derived.Test.YthfeakfakjecoaaPgE2
import Derived.Test.YthfeakfakjecoaaPgE3
import Derived.Test.YthfeakfakjecoaaPgE4
import Derived.Deep.MidRow
namespace Go.Proofs.Ythfeakfakjecoaa
open Go.RowKit

theorem step_any (p : List (List Ev)) (s : PS) (n : Nat) (a : Option Addr) (c b : Nat) (R : List Value) (T : TypeId) (w0 w : World) (h : PgS w0 a p) (hb0 : Below w0.heap.size w0 w) (hbb : w0.heap.size ≤ b) (hs : Has w b (psR s R) T) (hp : OkP p) (hI : IP p s) (hc : canB p s n = true)
    (hv : -1000000000 ≤ s.has n ∧ s.has n ≤ 1000000000) :
    Calls Try.prog 35 #[.pointer (some ⟨b, 0, none⟩), .slice a p.length c, .int .i64 n] w (StepP w b T R (stepP p s n)) := by
  have hbad := nextB_op hp hI (canB_next hc)
  rw [Int.toNat_natCast] at hbad
  obtain ⟨o0, oM, _⟩ := bad_iff.1 hbad
  have hk := boundK_pos (show 0 < boundK (opN p s n).k by omega)
  rcases (by omega : (opN p s n).k = 1 ∨ (opN p s n).k = 2 ∨ (opN p s n).k = 3 ∨ (opN p s n).k = 4 ∨ (opN p s n).k = 5 ∨ (opN p s n).k = 6 ∨ (opN p s n).k = 7 ∨ (opN p s n).k = 8 ∨ (opN p s n).k = 9) with k | k | k | k | k | k | k | k | k
  · exact step_k1 p s n a c b R T w0 w h hb0 hbb hs hp hI hc k
  · exact step_k2 p s n a c b R T w0 w h hb0 hbb hs hp hI hc k
  · exact step_k3 p s n a c b R T w0 w h hb0 hbb hs hp hI hc k hv
  · exact step_k4 p s n a c b R T w0 w h hb0 hbb hs hp hI hc k
  · by_cases ho : s.owner (opN p s n).t.toNat = n + 1
    · exact step_k5y p s n a c b R T w0 w h hb0 hbb hs hp hI hc k ho
    · exact step_k5n p s n a c b R T w0 w h hb0 hbb hs hp hI hc k ho
  · by_cases ho : (opN p s n).t < p.length
    · cases hq : s.begun (opN p s n).t.toNat
      · exact step_k6y p s n a c b R T w0 w h hb0 hbb hs hp hI hc k ho hq
      · exact step_k6b p s n a c b R T w0 w h hb0 hbb hs hp hI hc k ho hq
    · exact step_k6a p s n a c b R T w0 w h hb0 hbb hs hp hI hc k ho
  · exact step_k7 p s n a c b R T w0 w h hb0 hbb hs hp hI hc k
  · exact step_k8 p s n a c b R T w0 w h hb0 hbb hs hp hI hc k
  · exact step_k9 p s n a c b R T w0 w h hb0 hbb hs hp hI hc k

abbrev endT : TypeId := 30
theorem endC_size (s : PS) (d k : Bool) : (endC s d k).size = 20 := by simp [endC]
theorem endC_get (s : PS) (d k : Bool) {i : Nat} (h : i < 20) : (endC s d k)[i]? = some (psF s d k i) := by simp [endC, h]
theorem endC_one (s : PS) (d k : Bool) : (endC s d k).all (·.oneCell') = true := by
  rw [Array.all_eq_true]
  intro i hi
  rw [endC_size] at hi
  have h := endC_get s d k hi
  rw [Array.getElem?_eq_getElem (by rw [endC_size]; exact hi), Option.some.injEq] at h
  rw [h]
  unfold psF
  repeat' split
  all_goals rfl
theorem endC_18 (s : PS) (d k d' : Bool) : (endC s d k).setIfInBounds 18 (.bool d') = endC s d' k := by
  apply Array.ext_getElem?
  intro j
  rw [Array.getElem?_setIfInBounds]
  by_cases e : 18 = j
  · subst e; rw [if_pos rfl, if_pos (by rw [endC_size]; omega), endC_get s d' k (by omega)]; rfl
  · rw [if_neg e]
    by_cases hj : j < 20
    · rw [endC_get s d k hj, endC_get s d' k hj]
      unfold psF
      rw [if_neg (show ¬ j = 18 from fun h => e h.symm), if_neg (show ¬ j = 18 from fun h => e h.symm)]
    · rw [Array.getElem?_eq_none (by rw [endC_size]; omega), Array.getElem?_eq_none (by rw [endC_size]; omega)]
theorem endC_19 (s : PS) (d k k' : Bool) : (endC s d k).setIfInBounds 19 (.bool k') = endC s d k' := by
  apply Array.ext_getElem?
  intro j
  rw [Array.getElem?_setIfInBounds]
  by_cases e : 19 = j
  · subst e; rw [if_pos rfl, if_pos (by rw [endC_size]; omega), endC_get s d k' (by omega)]; rfl
  · rw [if_neg e]
    by_cases hj : j < 20
    · rw [endC_get s d k hj, endC_get s d k' hj]
      unfold psF
      rw [if_neg (show ¬ j = 19 from fun h => e h.symm), if_neg (show ¬ j = 19 from fun h => e h.symm)]
    · rw [Array.getElem?_eq_none (by rw [endC_size]; omega), Array.getElem?_eq_none (by rw [endC_size]; omega)]
theorem ps_end {w : World} {b : Nat} {s : PS} {R : List Value} {T : TypeId} (h : Has w b (psR s R) T) : w.rangeAt b 0 (endC s false false).toList := by
  intro j v hv
  have hj : j < 20 := by
    have := (List.getElem?_eq_some_iff.1 hv).1
    simpa [endC_size] using this
  rw [Array.getElem?_toList, endC_get s false false hj] at hv
  rw [Nat.zero_add, ← hv]
  exact h.cell (psR_get s R (by omega))
def doneK (p : List (List Ev)) (s : PS) (k : Nat) : Bool := (List.range k).all fun t => !(nextB p s t)
def stillK (p : List (List Ev)) (s : PS) (k : Nat) : Bool := (List.range k).all fun t => !(canB p s t)
theorem doneK_succ (p : List (List Ev)) (s : PS) (k : Nat) : doneK p s (k + 1) = (doneK p s k && !(nextB p s k)) := by simp [doneK, List.range_succ]
theorem stillK_succ (p : List (List Ev)) (s : PS) (k : Nat) : stillK p s (k + 1) = (stillK p s k && !(canB p s k)) := by simp [stillK, List.range_succ]

set_option maxRecDepth 100000 in
set_option maxHeartbeats 8000000 in
theorem ended_any (p : List (List Ev)) (s : PS) (a : Option Addr) (c b : Nat) (R : List Value) (T : TypeId) (w : World) (h : PgS w a p) (hs : Has w b (psR s R) T) (hp : OkP p) (hI : IP p s) :
    Calls Try.prog 36 #[.pointer (some ⟨b, 0, none⟩), .slice a p.length c] w fun r w' => r = .returned (.agg (endC s (doneB p s) (stuckB p s))) ∧ Below w.heap.size w w' := by
  have h6 := hp.six
  have HP := Lib.hid hp
  have HI := Lib.hid hI
  have hlt := hs.lt
  have hbig := h.big
  clear hp hI
  go_enter Try.func36, Try.ntmps36
  go_upto_region 1 with fail
  generalize hW : w.alloc _ = W
  have hZ : Has W w.heap.size (endC PS.zero false false) endT := by rw [← hW]; exact (Has.new w _ _).to rfl
  have hb : Below w.heap.size w W := by rw [← hW]; exact (Below.refl _ _).alloc (Nat.le_refl _) _
  have hsz : W.heap.size = w.heap.size + 1 := by rw [← hW]; simp
  clear hW
  have hS := hs.below hb hs.lt
  have hr := ps_end hS
  obtain ⟨Y, hY⟩ : ∃ Y, endC s false false = Y := ⟨_, rfl⟩
  have hYs : Y.size = 20 := by rw [← hY]; exact endC_size _ _ _
  have hY1 : Y.all (·.oneCell') = true := by rw [← hY]; exact endC_one _ _ _
  rw [hY] at hr
  have HY := Lib.hid hY
  have HS := Lib.hid hYs
  have H1 := Lib.hid hY1
  clear hY hYs hY1
  go_wp2_with (first
    | (refine wpList_load_mid rfl endT _ rfl b 0 rfl Y.toList _ hr Try.underlying30 rfl (by rw [Array.length_toList, HS.out]; rfl) ?_; rw [Array.toArray_toList])
    | (refine wpList_store_row rfl endT _ _ rfl (w.heap.size + 1) Y rfl rfl endT _ ((Has.new W (endC PS.zero false false) endT).at hsz).out (by rw [HS.out]; rfl) (by rw [HS.out]; rfl) H1.out ?_
       generalize hW3 : World.setRow _ _ _ = W3
       have hE : Has W3 (w.heap.size + 1) (endC s false false) endT := by rw [← hW3, HY.out]; exact ((Has.new W (endC PS.zero false false) endT).at hsz).setRow
       have hb3 : Below w.heap.size w W3 := by rw [← hW3]; exact below_setRow (hb.alloc hb.size _) (Nat.le_succ _)
       have hZ3 : Has W3 w.heap.size (endC PS.zero false false) endT := by rw [← hW3]; exact ⟨by simp only [World.setRow, Array.getElem?_modify]; rw [if_neg (by omega)]; exact (hZ.alloc _).out⟩
       clear hW3 hb hr hZ hS hsz
       have c18 : W3.cell? ⟨w.heap.size + 1, 18, none⟩ = some (.bool false) := hE.cell (endC_get s false false (by omega))
       have c19 : W3.cell? ⟨w.heap.size + 1, 19, none⟩ = some (.bool false) := hE.cell (endC_get s false false (by omega))
       have f18 := hE.free 18
       have f19 := hE.free 19))
  generalize hW4 : World.setCell (World.setCell W3 _ _) _ _ = W4
  have hE4 : Has W4 (w.heap.size + 1) (endC s (doneK p s 0) (stillK p s 0)) endT := by
    rw [← hW4]; exact (((hE.setCell 18 (.bool true)).to (endC_18 s false false true)).setCell 19 (.bool true)).to (endC_19 s true false true)
  have hb4 : Below w.heap.size w W4 := by rw [← hW4]; exact (hb3.setCell (p := ⟨w.heap.size + 1, 18, none⟩) (Nat.le_succ _) _).setCell (p := ⟨w.heap.size + 1, 19, none⟩) (Nat.le_succ _) _
  have hZ4 : Has W4 w.heap.size (endC PS.zero false false) endT := by rw [← hW4]; exact (hZ3.setCell_ne (a := ⟨w.heap.size + 1, 18, none⟩) (by simp) _).setCell_ne (a := ⟨w.heap.size + 1, 19, none⟩) (by simp) _
  clear hW4 hE hb3 hZ3 c18 c19 f18 f19 HY HS H1
  go_loopw [15] (fun i wr => ∃ k : Nat, k ≤ p.length ∧ i = .int .i64 k ∧ Has wr (w.heap.size + 1) (endC s (doneK p s k) (stillK p s k)) endT ∧ Has wr w.heap.size (endC PS.zero false false) endT ∧ Below w.heap.size w wr) (fun i _ => p.length - (intOf i).toNat)
  case atStart => exact ⟨0, Nat.zero_le _, rfl, hE4, hZ4, hb4⟩
  case round =>
    clear hE4 hZ4 hb4
    obtain ⟨k, hk, rfl, hE, hZ, hb⟩ := hrel
    by_cases hlt2 : k < p.length
    · have hd := doneK_succ p s k
      have hst := stillK_succ p s k
      have k0 : (0 : Int) ≤ k := by omega
      have k1 : (k : Int) < p.length := by omega
      have hbs := hb.size
      cases hn : nextB p s k
      · have hcf : canB p s k = false := by unfold canB; rw [hn]; rfl
        rw [hn] at hd
        rw [hcf] at hst
        have HD := Lib.hid hd
        have HST := Lib.hid hst
        have HCF := Lib.hid hcf
        clear hd hst hcf
        go_wp2_with fail
        refine (next_no p s k a c b R T _ (h.below hb) (hs.below hb hs.lt) h6 hn).mono ?_
        rintro r w5 ⟨rfl, hk5⟩
        have hE5 := hE.below hk5 hE.lt
        have hZ5 := hZ.below hk5 hZ.lt
        have hb5 := hb.trans (hk5.mono hbs)
        have hs5 := hb5.size
        clear hE hZ hb hk5 hn
        go_wp2_with fail
        refine (can_any p s k a c b R T _ (h.below hb5) (hs.below hb5 hs.lt) HP.out HI.out).mono ?_
        rintro r w6 ⟨rfl, hk6⟩
        rw [HCF.out]
        have hE6 := hE5.below hk6 hE5.lt
        have hZ6 := hZ5.below hk6 hZ5.lt
        have hb6 := hb5.trans (hk6.mono hs5)
        clear hE5 hZ5 hb5 hk6
        go_wp2
        go_roundw
        case rel => exact ⟨k + 1, by omega, by go_num, hE6.to (by rw [HD.out, HST.out]; simp), hZ6, hb6⟩
        case measure => (simp [intOf]; try omega)
      · obtain ⟨_, t1, t2, _⟩ := nextB_iff.1 hn
        have hat := nextB_at HI.out hn
        rw [Int.toNat_natCast] at t2 hat
        rw [hn] at hd
        obtain ⟨q, hq⟩ : ∃ q, canB p s k = q := ⟨_, rfl⟩
        rw [hq] at hst
        have HD := Lib.hid hd
        have HST := Lib.hid hst
        have HCF := Lib.hid hq
        have HB := Lib.hid t2
        have HA := Lib.hid hat
        clear hd hst hq t1 t2 hat hn
        go_wp2_with fail
        refine (next_yes p s k a c b R T w _ h hb (hs.below hb hs.lt) h6 hlt2 HB.out HA.out).mono ?_
        rintro r w5 ⟨g, q5, rfl, _, hk5⟩
        have hE5 := hE.below hk5 hE.lt
        have hZ5 := hZ.below hk5 hZ.lt
        have hb5 := hb.trans (hk5.mono hbs)
        have c18 : w5.cell? ⟨w.heap.size + 1, 18, none⟩ = some (.bool (doneK p s k)) := hE5.cell (endC_get s _ _ (by omega))
        have f18 := hE5.free 18
        clear hE hZ hb hk5
        go_wp2_with fail
        generalize hW6 : World.setCell w5 _ _ = W6
        have hE6 : Has W6 (w.heap.size + 1) (endC s false (stillK p s k)) endT := by rw [← hW6]; exact (hE5.setCell 18 (.bool false)).to (endC_18 s _ _ false)
        have hZ6 : Has W6 w.heap.size (endC PS.zero false false) endT := by rw [← hW6]; exact hZ5.setCell_ne (a := ⟨w.heap.size + 1, 18, none⟩) (by simp) _
        have hb6 : Below w.heap.size w W6 := by rw [← hW6]; exact hb5.setCell (p := ⟨w.heap.size + 1, 18, none⟩) (Nat.le_succ _) _
        have hs6 := hb6.size
        clear hW6 hE5 hZ5 hb5 c18 f18
        refine (can_any p s k a c b R T _ (h.below hb6) (hs.below hb6 hs.lt) HP.out HI.out).mono ?_
        rintro r w7 ⟨rfl, hk7⟩
        rw [HCF.out]
        have hE7 := hE6.below hk7 hE6.lt
        have hZ7 := hZ6.below hk7 hZ6.lt
        have hb7 := hb6.trans (hk7.mono hs6)
        have c19 : w7.cell? ⟨w.heap.size + 1, 19, none⟩ = some (.bool (stillK p s k)) := hE7.cell (endC_get s _ _ (by omega))
        have f19 := hE7.free 19
        clear hE6 hZ6 hb6 hk7
        cases q
        · go_wp2
          go_roundw
          case rel => exact ⟨k + 1, by omega, by go_num, hE7.to (by rw [HD.out, HST.out]; simp), hZ7, hb7⟩
          case measure => (simp [intOf]; try omega)
        · go_wp2
          go_roundw
          case rel => exact ⟨k + 1, by omega, by go_num, ((hE7.setCell 19 (.bool false)).to (endC_19 s _ _ false)).to (by rw [HD.out, HST.out]; simp), hZ7.setCell_ne (a := ⟨w.heap.size + 1, 19, none⟩) (by simp) _, hb7.setCell (p := ⟨w.heap.size + 1, 19, none⟩) (Nat.le_succ _) _⟩
          case measure => (simp [intOf]; try omega)
    · obtain rfl : k = p.length := by omega
      have hd : doneK p s p.length = doneB p s := rfl
      have hst : stuckB p s = (stillK p s p.length && !(doneB p s)) := rfl
      rw [hd] at hE
      obtain ⟨D, hD⟩ : ∃ D, doneB p s = D := ⟨_, rfl⟩
      rw [hD] at hE hst
      have HDN := Lib.hid hD
      have HST := Lib.hid hst
      clear hd hst hD
      have hE2 := hE
      generalize stillK p s p.length = Q at *
      have c18 : wr.cell? ⟨w.heap.size + 1, 18, none⟩ = some (.bool D) := hE.cell (endC_get s _ _ (by omega))
      have c19 : wr.cell? ⟨w.heap.size + 1, 19, none⟩ = some (.bool Q) := hE.cell (endC_get s _ _ (by omega))
      have f19 := hE.free 19
      have hR : Hid (stuckB p s = (Q && !D)) := HST
      clear HST hE2
      cases Q
      · cases D
        · go_upto_region 12 with fail
          generalize hW5 : World.setCell wr _ _ = W5
          have hE5 : Has W5 (w.heap.size + 1) (endC s false false) endT := by rw [← hW5]; exact (hE.setCell 19 (.bool false)).to (endC_19 s _ _ _)
          have hZ5 : Has W5 w.heap.size (endC PS.zero false false) endT := by rw [← hW5]; exact hZ.setCell_ne (a := ⟨w.heap.size + 1, 19, none⟩) (by simp) _
          have hb5 : Below w.heap.size w W5 := by rw [← hW5]; exact hb.setCell (p := ⟨w.heap.size + 1, 19, none⟩) (Nat.le_succ _) _
          have HR2 : Hid (stuckB p s = false) := Lib.hid (by rw [hR.out]; rfl)
          clear hW5 hE hZ hb c18 c19 f19 hR
          refine wp_region_lit ?_
          refine wpList_load_row rfl endT _ rfl (w.heap.size + 1) rfl endT (endC s false false) (0, 0) _ hE5.out Try.underlying30 rfl (by rw [endC_size]; rfl) ?_
          refine wpList_store_row rfl endT _ _ rfl w.heap.size (endC s false false) rfl rfl endT _ hZ5.out (by rw [endC_size]; rfl) (by rw [endC_size, endC_size]) (endC_one _ _ _) ?_
          refine wpList_nil ?_
          have hb6 := below_setRow (cs := endC s false false) hb5 (Nat.le_refl _)
          have hR6 := hZ5.setRow (ds := endC s false false)
          generalize W5.setRow w.heap.size (endC s false false) = W6 at *
          obtain ⟨Y, hY⟩ : ∃ Y, endC s false false = Y := ⟨_, rfl⟩
          have hs : Y.size = 20 := by rw [← hY]; exact endC_size _ _ _
          have HY : Hid (Y = endC s false (stuckB p s)) := Lib.hid (by rw [HR2.out]; exact hY.symm)
          rw [hY] at hR6 ⊢
          clear hY hE5 hZ5 hb5
          go_wp2
          refine bodyPost_ret (results_cell_row rfl _ W6 w.heap.size endT Y _ _ rfl hR6.out Try.underlying30 rfl ?_) rfl ?_
          · rw [hs]; rfl
          exact ⟨by rw [HDN.out, HY.out], hb6⟩
        · go_upto_region 12 with fail
          generalize hW5 : World.setCell wr _ _ = W5
          have hE5 : Has W5 (w.heap.size + 1) (endC s true false) endT := by rw [← hW5]; exact (hE.setCell 19 (.bool false)).to (endC_19 s _ _ _)
          have hZ5 : Has W5 w.heap.size (endC PS.zero false false) endT := by rw [← hW5]; exact hZ.setCell_ne (a := ⟨w.heap.size + 1, 19, none⟩) (by simp) _
          have hb5 : Below w.heap.size w W5 := by rw [← hW5]; exact hb.setCell (p := ⟨w.heap.size + 1, 19, none⟩) (Nat.le_succ _) _
          have HR2 : Hid (stuckB p s = false) := Lib.hid (by rw [hR.out]; rfl)
          clear hW5 hE hZ hb c18 c19 f19 hR
          refine wp_region_lit ?_
          refine wpList_load_row rfl endT _ rfl (w.heap.size + 1) rfl endT (endC s true false) (0, 0) _ hE5.out Try.underlying30 rfl (by rw [endC_size]; rfl) ?_
          refine wpList_store_row rfl endT _ _ rfl w.heap.size (endC s true false) rfl rfl endT _ hZ5.out (by rw [endC_size]; rfl) (by rw [endC_size, endC_size]) (endC_one _ _ _) ?_
          refine wpList_nil ?_
          have hb6 := below_setRow (cs := endC s true false) hb5 (Nat.le_refl _)
          have hR6 := hZ5.setRow (ds := endC s true false)
          generalize W5.setRow w.heap.size (endC s true false) = W6 at *
          obtain ⟨Y, hY⟩ : ∃ Y, endC s true false = Y := ⟨_, rfl⟩
          have hs : Y.size = 20 := by rw [← hY]; exact endC_size _ _ _
          have HY : Hid (Y = endC s true (stuckB p s)) := Lib.hid (by rw [HR2.out]; exact hY.symm)
          rw [hY] at hR6 ⊢
          clear hY hE5 hZ5 hb5
          go_wp2
          refine bodyPost_ret (results_cell_row rfl _ W6 w.heap.size endT Y _ _ rfl hR6.out Try.underlying30 rfl ?_) rfl ?_
          · rw [hs]; rfl
          exact ⟨by rw [HDN.out, HY.out], hb6⟩
      · cases D
        · go_upto_region 12 with fail
          generalize hW5 : World.setCell wr _ _ = W5
          have hE5 : Has W5 (w.heap.size + 1) (endC s false true) endT := by rw [← hW5]; exact (hE.setCell 19 (.bool true)).to (endC_19 s _ _ _)
          have hZ5 : Has W5 w.heap.size (endC PS.zero false false) endT := by rw [← hW5]; exact hZ.setCell_ne (a := ⟨w.heap.size + 1, 19, none⟩) (by simp) _
          have hb5 : Below w.heap.size w W5 := by rw [← hW5]; exact hb.setCell (p := ⟨w.heap.size + 1, 19, none⟩) (Nat.le_succ _) _
          have HR2 : Hid (stuckB p s = true) := Lib.hid (by rw [hR.out]; rfl)
          clear hW5 hE hZ hb c18 c19 f19 hR
          refine wp_region_lit ?_
          refine wpList_load_row rfl endT _ rfl (w.heap.size + 1) rfl endT (endC s false true) (0, 0) _ hE5.out Try.underlying30 rfl (by rw [endC_size]; rfl) ?_
          refine wpList_store_row rfl endT _ _ rfl w.heap.size (endC s false true) rfl rfl endT _ hZ5.out (by rw [endC_size]; rfl) (by rw [endC_size, endC_size]) (endC_one _ _ _) ?_
          refine wpList_nil ?_
          have hb6 := below_setRow (cs := endC s false true) hb5 (Nat.le_refl _)
          have hR6 := hZ5.setRow (ds := endC s false true)
          generalize W5.setRow w.heap.size (endC s false true) = W6 at *
          obtain ⟨Y, hY⟩ : ∃ Y, endC s false true = Y := ⟨_, rfl⟩
          have hs : Y.size = 20 := by rw [← hY]; exact endC_size _ _ _
          have HY : Hid (Y = endC s false (stuckB p s)) := Lib.hid (by rw [HR2.out]; exact hY.symm)
          rw [hY] at hR6 ⊢
          clear hY hE5 hZ5 hb5
          go_wp2
          refine bodyPost_ret (results_cell_row rfl _ W6 w.heap.size endT Y _ _ rfl hR6.out Try.underlying30 rfl ?_) rfl ?_
          · rw [hs]; rfl
          exact ⟨by rw [HDN.out, HY.out], hb6⟩
        · go_upto_region 12 with fail
          generalize hW5 : World.setCell wr _ _ = W5
          have hE5 : Has W5 (w.heap.size + 1) (endC s true false) endT := by rw [← hW5]; exact (hE.setCell 19 (.bool false)).to (endC_19 s _ _ _)
          have hZ5 : Has W5 w.heap.size (endC PS.zero false false) endT := by rw [← hW5]; exact hZ.setCell_ne (a := ⟨w.heap.size + 1, 19, none⟩) (by simp) _
          have hb5 : Below w.heap.size w W5 := by rw [← hW5]; exact hb.setCell (p := ⟨w.heap.size + 1, 19, none⟩) (Nat.le_succ _) _
          have HR2 : Hid (stuckB p s = false) := Lib.hid (by rw [hR.out]; rfl)
          clear hW5 hE hZ hb c18 c19 f19 hR
          refine wp_region_lit ?_
          refine wpList_load_row rfl endT _ rfl (w.heap.size + 1) rfl endT (endC s true false) (0, 0) _ hE5.out Try.underlying30 rfl (by rw [endC_size]; rfl) ?_
          refine wpList_store_row rfl endT _ _ rfl w.heap.size (endC s true false) rfl rfl endT _ hZ5.out (by rw [endC_size]; rfl) (by rw [endC_size, endC_size]) (endC_one _ _ _) ?_
          refine wpList_nil ?_
          have hb6 := below_setRow (cs := endC s true false) hb5 (Nat.le_refl _)
          have hR6 := hZ5.setRow (ds := endC s true false)
          generalize W5.setRow w.heap.size (endC s true false) = W6 at *
          obtain ⟨Y, hY⟩ : ∃ Y, endC s true false = Y := ⟨_, rfl⟩
          have hs : Y.size = 20 := by rw [← hY]; exact endC_size _ _ _
          have HY : Hid (Y = endC s true (stuckB p s)) := Lib.hid (by rw [HR2.out]; exact hY.symm)
          rw [hY] at hR6 ⊢
          clear hY hE5 hZ5 hb5
          go_wp2
          refine bodyPost_ret (results_cell_row rfl _ W6 w.heap.size endT Y _ _ rfl hR6.out Try.underlying30 rfl ?_) rfl ?_
          · rw [hs]; rfl
          exact ⟨by rw [HDN.out, HY.out], hb6⟩
end Go.Proofs.Ythfeakfakjecoaa
