/- Contract of prog.Alone. -/
import Derived.Test.YtoohconipcleiaaMF
import Derived.Test.YtoohconipcleiaaAlP
import Derived.Test.YtoohconipcleiaaGrA
import Derived.StillTailTactics
import Derived.Deep.DeepCutAuto
namespace Go.Proofs.Ytoohconipcleiaa
open Go.RowKit

/-- Five bools. -/
abbrev boC (f : Nat → Bool) : Array Value := #[.bool (f 0), .bool (f 1), .bool (f 2), .bool (f 3), .bool (f 4)]
theorem boC_get (f : Nat → Bool) {k : Nat} (hk : k < 5) : (boC f)[k]? = some (.bool (f k)) := by
  rcases (by omega : k = 0 ∨ k = 1 ∨ k = 2 ∨ k = 3 ∨ k = 4) with rfl | rfl | rfl | rfl | rfl <;> rfl
theorem boC_set (f : Nat → Bool) {k : Nat} (hk : k < 5) (x : Bool) : (boC f).setIfInBounds k (.bool x) = boC fun i => if i = k then x else f i := by
  rcases (by omega : k = 0 ∨ k = 1 ∨ k = 2 ∨ k = 3 ∨ k = 4) with rfl | rfl | rfl | rfl | rfl <;> simp [boC]
theorem boC_congr {f g : Nat → Bool} (h : ∀ i, i < 5 → f i = g i) : boC f = boC g := by
  simp only [boC, h 0 (by omega), h 1 (by omega), h 2 (by omega), h 3 (by omega), h 4 (by omega)]
set_option maxRecDepth 100000 in
theorem idxG (E : Nat → Nat → Bool) {k : Nat} (hk : k < 5) (w : World) : (Instr.index 116 (.agg (grC E)) (.int .i64 (k : Int))).run Try.prog w = .ok (.agg (boC (E k))) w := by
  rcases (by omega : k = 0 ∨ k = 1 ∨ k = 2 ∨ k = 3 ∨ k = 4) with rfl | rfl | rfl | rfl | rfl <;> kernel_rfl
theorem grC_put (E : Nat → Nat → Bool) {a b : Nat} (hb : b < 5) (v : Bool) : (grC E).setIfInBounds (a * 5 + b) (.bool v) = grC fun i j => if i = a ∧ j = b then v else E i j := by
  apply Array.ext
  · simp
  · intro i h1 h2
    have hi : i < 25 := by simpa using h2
    by_cases e : a * 5 + b = i
    · subst e
      have e1 : (a * 5 + b) / 5 = a := by omega
      have e2 : (a * 5 + b) % 5 = b := by omega
      simp [e1, e2]
    · rw [Array.getElem_setIfInBounds_ne (by simpa using hi) e]
      have : ¬ (i / 5 = a ∧ i % 5 = b) := by omega
      simp [this]
theorem grC_size (E : Nat → Nat → Bool) : (grC E).size = 25 := by simp
/-- The row o, as far as j. -/
def midW (E : Nat → Nat → Bool) (h : Nat → Bool) (o j : Nat) : Nat → Nat → Bool := fun a b => E a b || (decide (b = o) && decide (a < j) && h a)
theorem midW_zero (E : Nat → Nat → Bool) (h : Nat → Bool) (o : Nat) : grC (midW E h o 0) = grC E := grC_congr fun i j _ _ => by simp [midW]
theorem midW_succ (E : Nat → Nat → Bool) (h : Nat → Bool) {o j : Nat} (ho : o < 5) : (grC (midW E h o j)).setIfInBounds (j * 5 + o) (.bool (midW E h o j j o || h j)) = grC (midW E h o (j + 1)) := by
  rw [grC_put _ ho]
  refine grC_congr fun a b _ _ => ?_
  by_cases e : a = j ∧ b = o
  · obtain ⟨rfl, rfl⟩ := e
    simp [midW]
  · rw [if_neg e]
    unfold midW
    by_cases eb : b = o
    · have ea : a ≠ j := fun h => e ⟨h, eb⟩
      have : decide (a < j + 1) = decide (a < j) := by
        by_cases c : a < j
        · simp [c]; omega
        · simp [c]; omega
      rw [this]
    · simp [eb]
theorem midW_five (z : List Ev) {i : Nat} (h4 : (ev0 z i).k = 4) (hf : (alN z i).1 (ev0 z i).t.toNat = false) : grC (midW (alN z i).2 (alN z i).1 (ev0 z i).t.toNat 5) = grC (alN z (i + 1)).2 ∧
    boC (fun j => if j = (ev0 z i).t.toNat then true else (alN z i).1 j) = boC (alN z (i + 1)).1 := by
  have e : alN z (i + 1) = alStep (alN z i) (ev0 z i) := rfl
  rw [e]
  unfold alStep
  rw [if_pos ⟨h4, hf⟩]
  exact ⟨grC_congr fun a b ha _ => by simp [midW, ha], rfl⟩
theorem alN_five {z : List Ev} {i : Nat} (h5 : (ev0 z i).k = 5) : (alN z (i + 1)).2 = (alN z i).2 ∧ (alN z (i + 1)).1 = fun j => if j = (ev0 z i).t.toNat then false else (alN z i).1 j := by
  have e : alN z (i + 1) = alStep (alN z i) (ev0 z i) := rfl
  rw [e]
  unfold alStep
  rw [if_neg (by omega), if_pos h5]
  exact ⟨rfl, rfl⟩
theorem alN_same {z : List Ev} {i : Nat} (h5 : (ev0 z i).k ≠ 5) (h4 : (ev0 z i).k ≠ 4 ∨ (alN z i).1 (ev0 z i).t.toNat = true) : alN z (i + 1) = alN z i := by
  have e : alN z (i + 1) = alStep (alN z i) (ev0 z i) := rfl
  rw [e]
  unfold alStep
  rw [if_neg (by rintro ⟨c1, c2⟩; rcases h4 with h4 | h4; exact h4 c1; rw [h4] at c2; cases c2), if_neg h5]

abbrev hT5 : TypeId := 115
abbrev hT25 : TypeId := 116
theorem alone_err (p : List (List Ev)) (t : Int) (a : Option Addr) (c : Nat) (w : World) (h : PgS w a p) (he : chkP p ≠ 0) :
    Calls Try.prog 28 #[.slice a p.length c, .int .i64 t] w fun r w' => r = .returned (.tuple #[.slice none 0 0, .int .i64 (chkP p)]) ∧ Below w.heap.size w w' := by
  have he2 : (chkP p != 0) = true := by simpa using he
  go_enter Try.func28, Try.ntmps28
  go_wp2_with fail
  refine (checkP_any p a c _ h).mono ?_
  rintro r w1 ⟨rfl, hb⟩
  clear he
  go_wp2
  go_ret2
  exact ⟨rfl, hb⟩
set_option maxRecDepth 100000 in
set_option maxHeartbeats 8000000 in
theorem alone_ok (p : List (List Ev)) (t : Nat) (a : Option Addr) (c : Nat) (w : World) (h : PgS w a p) (he : chkP p = 0) (htl : t < p.length) :
    Calls Try.prog 28 #[.slice a p.length c, .int .i64 (t : Int)] w (GraphPost (alOut (opsP p t)) w) := by
  obtain ⟨i0, hi, hz0, hz1, hz2⟩ := info_parts infoPr
  have hO := chkP_ok he
  have hzl := hO.plen t
  have hop := fun i (hi : i < plen p t) => hO.at hi
  have hzo : opsP p t = p[t] := by unfold opsP; rw [List.getD_eq_getElem?_getD, List.getElem?_eq_getElem htl]; rfl
  have hpl : plen p t = p[t].length := by rw [← opsP_len, hzo]
  have hcm := checkP_any p a c _ h
  rw [he] at hcm
  obtain ⟨pb, po, a', c', rfl, e0, hz⟩ := h.at htl
  rw [hpl] at hzl
  have hop2 : ∀ i, i < p[t].length → badOp (ev0 p[t] i) = false := fun i hi => by
    have := hop i (by rw [hpl]; exact hi)
    rw [← ev0_op, hzo] at this
    exact this
  rw [hzo]
  clear hop hzo hpl
  generalize p[t] = z at *
  have HOP := Lib.hid hop2
  have t0 : (0 : Int) ≤ t := by omega
  have t1 : (t : Int) < p.length := by omega
  have t2 : decide ((t : Int) < 0) = false := decide_eq_false (by omega)
  have t3 : decide ((t : Int) ≥ p.length) = false := decide_eq_false (by omega)
  have t4 : decide ((p.length : Int) ≤ t) = false := decide_eq_false (by omega)
  have t5 : decide (p.length ≤ t) = false := decide_eq_false (by omega)
  clear hO he hop2
  go_enter Try.func28, Try.ntmps28
  go_wp2_with fail
  refine hcm.mono ?_
  clear hcm
  rintro r w1 ⟨rfl, hb⟩
  have hz1' := hz.below hb
  have e0' := (hb.cell (World.block_lt_of_cell? w _ e0)).trans e0
  have hpb : pb < w1.heap.size := World.block_lt_of_cell? w1 _ e0'
  clear e0 hz
  have hH0 : Has ((w1.alloc (.cells (boC fun _ => false) hT5)).alloc (.cells grZ hT25)) w1.heap.size (boC (alN z 0).1) hT5 := ((Has.new w1 _ _).to rfl).alloc _
  have hW0 : Has ((w1.alloc (.cells (boC fun _ => false) hT5)).alloc (.cells grZ hT25)) (w1.heap.size + 1) (grC (alN z 0).2) hT25 := ((Has.new (w1.alloc _) _ _).at (by simp)).to (by kernel_rfl)
  have hb0 := ((Below.refl w1.heap.size w1).alloc (Nat.le_refl _) (.cells (boC fun _ => false) hT5)).alloc (by simp) (.cells grZ hT25)
  go_wp2
  clear e0' hpb
  obtain ⟨Hb, hHb⟩ : ∃ Hb, w1.heap.size = Hb := ⟨_, rfl⟩
  rw [hHb] at hH0 hW0 hb0 ⊢
  have HHB := Lib.hid hHb
  have hsb : w.heap.size ≤ Hb := by rw [← hHb]; exact hb.size
  clear hHb
  go_loopw [36] (fun i wr => ∃ k : Nat, k ≤ z.length ∧ i = .int .i64 k ∧ Has wr Hb (boC (alN z k).1) hT5 ∧ Has wr (Hb + 1) (grC (alN z k).2) hT25 ∧ Below Hb w1 wr) (fun i _ => z.length - (intOf i).toNat)
  case atStart => exact ⟨0, Nat.zero_le _, rfl, hH0, hW0, hb0⟩
  case round =>
    clear hH0 hW0 hb0
    obtain ⟨k, hk, rfl, hH, hW, hbw⟩ := hrel
    have hbw3 : Below w1.heap.size w1 wr := by rw [HHB.out]; exact hbw
    by_cases hlt : k < z.length
    · obtain ⟨b, o, rfl, d0, d1, d2⟩ := (hz1'.below hbw3).at hlt
      rw [← ev0_at hlt] at d0 d1 d2
      have hbd := HOP.out k hlt
      have hf4 := fun h4 hf => midW_five (z := z) (i := k) h4 hf
      have hf5 := fun h5 => alN_five (z := z) (i := k) h5
      have hfs := fun h5 h4 => alN_same (z := z) (i := k) h5 h4
      have k0 : (0 : Int) ≤ k := by omega
      have k1 : (k : Int) < z.length := by omega
      obtain ⟨s', hse⟩ : ∃ s', alN z (k + 1) = s' := ⟨_, rfl⟩
      rw [hse] at hf4 hf5 hfs
      have HSE := Lib.hid hse
      clear hse
      generalize alN z k = s at *
      obtain ⟨H, W⟩ := s
      generalize ev0 z k = x at *
      have HF4 := Lib.hid hf4
      have HF5 := Lib.hid hf5
      have HFS := Lib.hid hfs
      have hN := Has.new wr (evC x) 40
      have hH5 := hH.alloc (.cells (evC x) 40)
      have hW5 := hW.alloc (.cells (evC x) 40)
      have hwl := hW.lt
      have hb5 := hbw.alloc (by omega) (.cells (evC x) 40)
      clear hf4 hf5 hfs hH hW hbw hbw3
      simp only at hH5 hW5
      go_upto_region 11 with fail
      clear d0 d1 d2
      generalize wr.alloc (.cells (evC x) 40) = w5 at *
      have hEn : Hb + 1 < wr.heap.size := hwl
      generalize wr.heap.size = E at *
      have x0 : w5.cell? ⟨E, 0, none⟩ = some (.int .i64 x.k) := hN.cell rfl
      by_cases k4 : x.k = 4
      · have hb4 := bad_iff.1 hbd
        rw [k4] at hb4 x0
        obtain ⟨n, hn⟩ := Int.eq_ofNat_of_zero_le hb4.1
        have hn5 : n < 5 := by have : x.t < boundK 4 := hb4.2.1; have e : boundK 4 = 5 := rfl; omega
        have x1 : w5.cell? ⟨E, 1, none⟩ = some (.int .i64 (n : Int)) := by rw [← hn]; exact hN.cell rfl
        have hnn : x.t.toNat = n := by omega
        have n0 : (0 : Int) ≤ n := by omega
        have n1 : (n : Int) < 5 := by omega
        have HH := hH5.cell (boC_get H hn5)
        have HNN := Lib.hid hnn
        have HK4 := Lib.hid k4
        have HN := Lib.hid hn
        clear hbd hb4 k4 hn hnn
        cases hq : H n
        · rw [hq] at HH
          obtain ⟨c0, c1, c2, c3, c4⟩ : _ ∧ _ ∧ _ ∧ _ ∧ _ := ⟨hH5.cell (boC_get H (k := 0) (by omega)), hH5.cell (boC_get H (k := 1) (by omega)), hH5.cell (boC_get H (k := 2) (by omega)), hH5.cell (boC_get H (k := 3) (by omega)), hH5.cell (boC_get H (k := 4) (by omega))⟩
          have HIX := Lib.hid (fun k (hk : k < 5) (W : World) => idx5b H hk W)
          have HQ := Lib.hid hq
          have hWm : Has w5 (Hb + 1) (grC (midW W H n 0)) hT25 := by rw [midW_zero]; exact hW5
          clear hq
          go_wp2
          clear c0 c1 c2 c3 c4 x0 x1 HH hW5
          generalize #[Value.bool (H 0), Value.bool (H 1), Value.bool (H 2), Value.bool (H 3), Value.bool (H 4)] = HV at *
          go_loopw [52] (fun i wv => ∃ j : Nat, j ≤ 5 ∧ i = .int .i64 j ∧ Has wv Hb (boC H) hT5 ∧ Has wv (Hb + 1) (grC (midW W H n j)) hT25 ∧ Has wv E (evC x) 40 ∧ Below Hb w1 wv) (fun i _ => 5 - (intOf i).toNat)
          case atStart => exact ⟨0, Nat.zero_le _, rfl, hH5, hWm, hN, hb5⟩
          case round =>
            clear hH5 hWm hN hb5
            obtain ⟨j, hj, rfl, hH, hW, hN, hbw⟩ := hrel
            have hx1 : wr.cell? ⟨E, 1, none⟩ = some (.int .i64 (n : Int)) := by rw [← HN.out]; exact hN.cell rfl
            by_cases hj5 : j < 5
            · have hjd : decide ((j : Int) < 5) = true := decide_eq_true (by omega)
              have j0 : (0 : Int) ≤ j := by omega
              have j1 : (j : Int) < 5 := by omega
              have hix := HIX.out j hj5
              have hc := hW.cell (grC_get (midW W H n j) hj5 hn5)
              have hf := hW.free (j * 5 + n)
              have hst := midW_succ W H (j := j) hn5
              obtain ⟨q1, hq1⟩ : ∃ q, midW W H n j j n = q := ⟨_, rfl⟩
              obtain ⟨q2, hq2⟩ : ∃ q, H j = q := ⟨_, rfl⟩
              rw [hq1] at hc hst
              rw [hq2] at hix hst
              have hW2 := (hW.setCell (j * 5 + n) (.bool (q1 || q2))).to hst
              have hH2 := hH.setCell_ne (a := ⟨Hb + 1, j * 5 + n, none⟩) (by simp) (.bool (q1 || q2))
              have hN2 := hN.setCell_ne (a := ⟨Hb + 1, j * 5 + n, none⟩) (by simp; omega) (.bool (q1 || q2))
              have hb2 := hbw.setCell (show Hb ≤ (⟨Hb + 1, j * 5 + n, none⟩ : Addr).block by simp) (.bool (q1 || q2))
              clear hst hq1 hq2 hW hH hN hbw
              cases q1
              · rw [Bool.false_or] at hW2 hH2 hN2 hb2
                go_upto_region 15 with fail
                go_still_tail 14, (by kernel_rfl)
                change wpList _ _ _ _ _ wr.drew
                go_upto_region 16 with fail
                have hW3 := hW2.drew
                have hH3 := hH2.drew
                have hN3 := hN2.drew
                have hb3 := hb2.drew
                clear hW2 hH2 hN2 hb2 hf hc hx1 hix
                generalize (wr.setCell ⟨Hb + 1, j * 5 + n, none⟩ (.bool q2)).drew = w7 at *
                go_wp2
                go_roundw
                case rel => exact ⟨j + 1, by omega, by go_num, hH3, hW3, hN3, hb3⟩
                case measure => (simp [intOf]; try omega)
              · rw [Bool.true_or] at hW2 hH2 hN2 hb2
                go_upto_region 15 with fail
                go_still_tail 14, (by kernel_rfl)
                change wpList _ _ _ _ _ wr.drew
                go_upto_region 16 with fail
                have hW3 := hW2.drew
                have hH3 := hH2.drew
                have hN3 := hN2.drew
                have hb3 := hb2.drew
                clear hW2 hH2 hN2 hb2 hf hc hx1 hix
                generalize (wr.setCell ⟨Hb + 1, j * 5 + n, none⟩ (.bool true)).drew = w7 at *
                go_wp2
                go_roundw
                case rel => exact ⟨j + 1, by omega, by go_num, hH3, hW3, hN3, hb3⟩
                case measure => (simp [intOf]; try omega)
            · obtain rfl : j = 5 := by omega
              obtain ⟨e1, e2⟩ := HF4.out HK4.out (by rw [HNN.out]; exact HQ.out)
              rw [HNN.out] at e1 e2
              have hc := hH.cell (boC_get H hn5)
              have hf := hH.free n
              have hst := boC_set H hn5 true
              have hH2 := (hH.setCell n (.bool true)).to (hst.trans e2)
              have hW2 := (hW.setCell_ne (a := ⟨Hb, n, none⟩) (by simp) (.bool true)).to e1
              have hb2 := hbw.setCell (show Hb ≤ (⟨Hb, n, none⟩ : Addr).block by simp) (.bool true)
              clear hst e1 e2 hW hH hN hbw
              go_wp2
              go_roundw
              case rel => exact ⟨k + 1, by omega, by go_num, by rw [HSE.out]; exact hH2, by rw [HSE.out]; exact hW2, hb2⟩
              case measure => (simp [intOf]; try omega)
        · rw [hq] at HH
          have e := HFS.out (by rw [HK4.out]; decide) (.inr (by rw [HNN.out]; exact hq))
          have hH2 : Has w5 Hb (boC s'.1) hT5 := by rw [e]; exact hH5
          have hW2 : Has w5 (Hb + 1) (grC s'.2) hT25 := by rw [e]; exact hW5
          clear e hq hH5 hW5
          go_wp2
          go_roundw
          case rel => exact ⟨k + 1, by omega, by go_num, by rw [HSE.out]; exact hH2, by rw [HSE.out]; exact hW2, hb5⟩
          case measure => (simp [intOf]; try omega)
      · have r4 : (x.k == 4) = false := beq_eq_false_iff_ne.2 k4
        by_cases k5 : x.k = 5
        · have hb4 := bad_iff.1 hbd
          obtain ⟨e1, e2⟩ := HF5.out k5
          rw [k5] at hb4 x0
          obtain ⟨n, hn⟩ := Int.eq_ofNat_of_zero_le hb4.1
          have hn5 : n < 5 := by have : x.t < boundK 5 := hb4.2.1; have e : boundK 5 = 5 := rfl; omega
          have x1 : w5.cell? ⟨E, 1, none⟩ = some (.int .i64 (n : Int)) := by rw [← hn]; exact hN.cell rfl
          have hnn : x.t.toNat = n := by omega
          have n0 : (0 : Int) ≤ n := by omega
          have n1 : (n : Int) < 5 := by omega
          have hc := hH5.cell (boC_get H hn5)
          have hf := hH5.free n
          rw [hnn] at e2
          have hH2 : Has (w5.setCell ⟨Hb, n, none⟩ (.bool false)) Hb (boC s'.1) hT5 := (hH5.setCell n (.bool false)).to (by rw [boC_set H hn5, e2])
          have hW2 : Has (w5.setCell ⟨Hb, n, none⟩ (.bool false)) (Hb + 1) (grC s'.2) hT25 := (hW5.setCell_ne (a := ⟨Hb, n, none⟩) (by simp) (.bool false)).to (by rw [e1])
          have hb2 := hb5.setCell (show Hb ≤ (⟨Hb, n, none⟩ : Addr).block by simp) (.bool false)
          clear hbd hb4 k5 k4 hn hnn e1 e2 hH5 hW5 hb5 r4
          go_wp2
          go_roundw
          case rel => exact ⟨k + 1, by omega, by go_num, by rw [HSE.out]; exact hH2, by rw [HSE.out]; exact hW2, hb2⟩
          case measure => (simp [intOf]; try omega)
        · have e := HFS.out k5 (.inl k4)
          have r5 : (x.k == 5) = false := beq_eq_false_iff_ne.2 k5
          have hH2 : Has w5 Hb (boC s'.1) hT5 := by rw [e]; exact hH5
          have hW2 : Has w5 (Hb + 1) (grC s'.2) hT25 := by rw [e]; exact hW5
          clear e hH5 hW5 k4 k5 hbd
          go_wp2
          go_roundw
          case rel => exact ⟨k + 1, by omega, by go_num, by rw [HSE.out]; exact hH2, by rw [HSE.out]; exact hW2, hb5⟩
          case measure => (simp [intOf]; try omega)
    · obtain rfl : k = z.length := by omega
      have hb5 := hb.trans (hbw3.mono hb.size)
      have HG := Lib.hid (show alOut z = pwAll (alN z z.length).2 5 from rfl)
      clear hb hbw hbw3 hH
      generalize alOut z = G at *
      generalize (alN z z.length).2 = S at *
      go_upto_region 22 with fail
      have HIX := Lib.hid (fun k (hk : k < 5) (W : World) => idxG S hk W)
      go_wp2_with (refine wpList_load_row rfl hT25 _ rfl (Hb + 1) rfl hT25 (grC S) (0, 0) _ hW.out Try.underlying116 rfl (by rw [grC_size]; rfl) ?_
                   clear hW
                   generalize grC S = GV at *
                   generalize wr = w5 at *)
      have hbB := Below.refl w5.heap.size w5
      go_loopw [13, 83] (fun v i wr => ∃ A : Nat, A ≤ 5 ∧ i = .int .i64 A ∧ wr.ownsRow w5.heap.size 99 2 v (pwAll S A).length (prL (pwAll S A)) ∧ Below w5.heap.size w5 wr) (fun _ i _ => 5 - (intOf i).toNat)
      case atStart => exact ⟨0, Nat.zero_le _, rfl, World.ownsRow_nil _ _ _ _, hbB⟩
      case round =>
        clear hbB
        obtain ⟨A, hA, rfl, hown, hbB⟩ := hrel
        by_cases hA5 : A < 5
        · have hAd : decide ((A : Int) < 5) = true := decide_eq_true (by omega)
          have HA1 := Lib.hid (pwAll_succ S A)
          have hal := pwAll_len S A
          have hix := HIX.out A hA5
          have hown0 : (wr.alloc (.cells (boC (S A)) hT5)).ownsRow w5.heap.size 99 2 u13 (pwAll S A ++ pwRow S A 0).length (prL (pwAll S A ++ pwRow S A 0)) := by
            rw [show pwRow S A 0 = [] from rfl, List.append_nil]; exact hown.alloc _
          have hbB0 := hbB.alloc hbB.size (.cells (boC (S A)) hT5)
          have HIY := Lib.hid (fun k (hk : k < 5) (W : World) => idx5b (S A) hk W)
          have hRow := Has.new wr (boC (S A)) hT5
          obtain ⟨c0, c1, c2, c3, c4⟩ : _ ∧ _ ∧ _ ∧ _ ∧ _ := ⟨hRow.cell (boC_get (S A) (k := 0) (by omega)), hRow.cell (boC_get (S A) (k := 1) (by omega)), hRow.cell (boC_get (S A) (k := 2) (by omega)), hRow.cell (boC_get (S A) (k := 3) (by omega)), hRow.cell (boC_get (S A) (k := 4) (by omega))⟩
          clear hown hbB hRow
          generalize pwAll S A = GA at *
          go_wp2
          clear c0 c1 c2 c3 c4 hix
          go_loopw [13, 88] (fun v i wr => ∃ B : Nat, B ≤ 5 ∧ i = .int .i64 B ∧ wr.ownsRow w5.heap.size 99 2 v (GA ++ pwRow S A B).length (prL (GA ++ pwRow S A B)) ∧ Below w5.heap.size w5 wr) (fun _ i _ => 5 - (intOf i).toNat)
          case atStart => exact ⟨0, Nat.zero_le _, rfl, hown0, hbB0⟩
          case round =>
            clear hown0 hbB0
            obtain ⟨B, hB, rfl, hown, hbB⟩ := hrel
            by_cases hB5 : B < 5
            · have hBd : decide ((B : Int) < 5) = true := decide_eq_true (by omega)
              have hrl := pwRow_len S A B
              have hix := HIY.out B hB5
              obtain ⟨q, hq⟩ : ∃ q, S A B = q := ⟨_, rfl⟩
              rw [hq] at hix
              cases q
              · have HR := Lib.hid (pwRow_no hq)
                clear hq
                go_wp2
                go_roundw
                case rel => exact ⟨B + 1, by omega, by go_num, by rw [HR.out]; exact hown, hbB⟩
                case measure => (simp [intOf]; try omega)
              · have HR := Lib.hid (show GA ++ pwRow S A (B + 1) = GA ++ pwRow S A B ++ [((A : Int), (B : Int))] by rw [pwRow_yes hq, List.append_assoc])
                have HL := Lib.hid (show (GA ++ pwRow S A B).length ≤ 60 by rw [List.length_append]; omega)
                have hs := hbB.size
                clear hq hrl
                generalize GA ++ pwRow S A B = G2 at *
                go_wp2_with (at_builtin; refine app_list _ rfl (.tmp 93) (.tmp 97) 60 rfl Try.underlying60 hi hz0 hz1 hz2 rfl (by decide) rfl (hown.alloc _) rfl (m := 1) (news := prL [((A : Int), (B : Int))]) ⟨rfl, .inr ⟨_, rfl, fun j u hu => (Has.new wr (prC ((A : Int), (B : Int))) 99).cell_add (by simpa [prL] using hu)⟩⟩ (prL_one _) (by have := HL.out; unfold maxLen; omega) (by have := HL.out; omega) (by simp; omega) ?_)
                intro v' w7 hAp
                have hb6 := hAp.below (hown.alloc _) (hbB.alloc (by omega) _) (by simp; omega)
                have ho6 := hAp.own
                rw [← prL_append] at ho6
                clear hAp hown hbB hs
                go_wp2
                go_roundw
                case rel => exact ⟨B + 1, by omega, by go_num, by rw [HR.out, List.length_append]; exact ho6, hb6⟩
                case measure => (simp [intOf]; try omega)
            · obtain rfl : B = 5 := by omega
              rw [← HA1.out] at hown
              go_wp2
              go_roundw
              case rel => exact ⟨A + 1, by omega, by go_num, hown, hbB⟩
              case measure => (simp [intOf]; try omega)
        · obtain rfl : A = 5 := by omega
          have hal := pwAll_len S 5
          rw [← HG.out] at hown hal
          obtain ⟨a', c', rfl, hP, hc, _⟩ := prS_ownc hown (by omega)
          have hb8 := hb5.trans (hbB.mono hb5.size)
          clear hown hbB hb5
          go_wp2
          go_ret2
          exact ⟨_, _, rfl, hP, hc, hb8⟩
end Go.Proofs.Ytoohconipcleiaa
