/- StampRises: from one event of a thread to its next one the clock increases: for every trace. -/
import Derived.Test.YtlphmkdlacnnoaaRows
import Derived.Test.YtlphmkdlacnnoaaStmE
import Derived.Test.YtlphmkdlacnnoaaOpenE
import Derived.Test.YtlphmkdlacnnoaaStmU
import Derived.Test.YtlphmkdlacnnoaaClkC
import Derived.Deep.DeepCutAuto
namespace Go.Proofs.Ytlphmkdlacnnoaa
open Go.ChangeShapes Go.WideShapes Go.ChangeAt Go.RowKit

theorem stampRises_no (a : Option Addr) (z : List Ev) (c : Nat) (w : World) (h : EvS w a z) (he : (played z).2.2 ≠ 0) :
    Calls Try.prog 11 #[.slice a z.length c] w fun e w' => e = .returned (.bool true) ∧ Below w.heap.size w w' := by
  have e2 : ((played z).2.2 != 0) = true := by simpa using he
  have hm : mayB z = false := by simpa [mayB] using he
  go_enter Try.func11, Try.ntmps11
  go_wp2_with fail
  refine (stamped_any _).mono ?_
  rintro r w1 ⟨rfl, hb⟩
  go_wp2_with fail
  refine (stamps_err z a c _ (h.below hb) he).mono ?_
  rintro r w2 ⟨rfl, hk⟩
  replace hb := hb.trans (hk.mono hb.size)
  clear hk
  go_wp2_with fail
  refine (may_any z a c _ (h.below hb)).mono ?_
  rintro r w3 ⟨rfl, hk⟩
  rw [hm]
  go_wp2
  go_ret
  exact ⟨rfl, hb.trans (hk.mono hb.size)⟩

set_option maxRecDepth 100000 in
set_option maxHeartbeats 8000000 in
theorem stampRises_ok (a : Option Addr) (z : List Ev) (c : Nat) (w : World) (h : EvS w a z) (he : (played z).2.2 = 0) :
    Calls Try.prog 11 #[.slice a z.length c] w fun e w' => e = .returned (.bool true) ∧ Below w.heap.size w w' := by
  have hbig := h.big
  have hl80 := (played_evs he).1
  have HE := Lib.hid he
  clear he
  go_enter Try.func11, Try.ntmps11
  go_wp2_with fail
  refine (stamped_any _).mono ?_
  rintro r w1 ⟨rfl, hb⟩
  go_wp2_with fail
  refine (stamps_ok z a c _ (h.below hb) HE.out).mono ?_
  rintro r w2 ⟨v, rfl, hown, hk⟩
  have hex : ∃ a2 c2, v = .slice a2 z.length c2 ∧ CkS w2 a2 (stampL z z.length) := by
    obtain ⟨a, c, h1, h2, _⟩ := ckS_own hown
    rw [stampL_length] at h1
    exact ⟨a, c, h1, h2⟩
  obtain ⟨a2, c2, rfl, hC⟩ := hex
  have hb2 := hb.trans (hk.mono hb.size)
  clear hk hb hown
  replace h := h.below hb2
  have hcmp : ∀ k p : Nat, k < z.length → pL z (evAt z k).t k = p + 1 → ccmp (stampOf z p) (stampOf z k) = 1 := by
    intro k p hk hp
    have hpk : p < k := by have := pL_le z (evAt z k).t k; omega
    obtain ⟨r1, r2⟩ := stamp_rises HE.out hpk hk (pL_at z _ hp)
    simp [ccmp, r1, r2]
  have HCMP := Lib.hid hcmp
  clear hcmp
  have hL0 := (Has.new w2 (clkC fun τ : Nat => cntT z τ 0) 44).alloc (.cells (clkC fun τ : Nat => (pL z τ 0 : Int)) 43)
  have hI0 := Has.new (w2.alloc (.cells (clkC fun τ : Nat => cntT z τ 0) 44)) (clkC fun τ : Nat => (pL z τ 0 : Int)) 43
  rw [World.size_alloc] at hI0
  have hb3 := ((Below.refl w2.heap.size w2).alloc (Nat.le_refl _) (.cells (clkC fun τ : Nat => cntT z τ 0) 44)).alloc (by simp) (.cells (clkC fun τ : Nat => (pL z τ 0 : Int)) 43)
  go_wp2
  go_loopw [38] (fun i wr => ∃ k : Nat, k ≤ z.length ∧ i = .int .i64 k ∧ Has wr w2.heap.size (clkC fun τ : Nat => cntT z τ k) 44 ∧ Has wr (w2.heap.size + 1) (clkC fun τ : Nat => (pL z τ k : Int)) 43 ∧ Below w2.heap.size w2 wr) (fun i _ => z.length - (intOf i).toNat)
  case atStart => exact ⟨0, Nat.zero_le _, rfl, hL0, hI0, hb3⟩
  case round =>
    clear hL0 hI0 hb3
    obtain ⟨k, hk, rfl, hL, hI, hb3⟩ := hrel
    by_cases hlt : k < z.length
    · obtain ⟨b', o', rfl, d0, d1, d2⟩ := (h.below hb3).at hlt
      obtain ⟨t1, t2, _, _⟩ := ev_at HE.out hlt
      have hx : evAt z k = z[k] := by simp [evAt, hlt]
      have HJ := Lib.hid (fun τ : Nat => join_cnt HE.out hlt τ)
      have hps : ∀ τ : Nat, pL z τ (k + 1) = if (evAt z k).t = τ then k + 1 else pL z τ k := fun _ => rfl
      have hpl := pL_le z (evAt z k).t k
      have hcm := HCMP.out k
      rw [hx] at t1 t2 hpl hcm
      simp only [hx] at hps
      clear hx
      generalize z[k] = x at *
      obtain ⟨K, t, o⟩ := x
      simp only at t1 t2 d0 d1 d2 hpl hps hcm
      obtain ⟨t, rfl⟩ := Int.eq_ofNat_of_zero_le t1
      have t6 : t < 6 := by omega
      have HPS := Lib.hid hps
      have HCM := Lib.hid hcm
      clear hps hcm
      obtain ⟨g, rfl⟩ := hC.some (show 0 < z.length by omega)
      have i0 : (0 : Int) ≤ t := by omega
      have i6 : (t : Int) < 6 := by omega
      have k0 : (0 : Int) ≤ k := by omega
      have k1 : (k : Int) < z.length := by omega
      have hszL := hL.lt
      have hszI := hI.lt
      have hLx := hL.alloc (.cells (evC ⟨K, t, o⟩) 30)
      have hIx := hI.alloc (.cells (evC ⟨K, t, o⟩) 30)
      have hN := Has.new wr (evC ⟨K, t, o⟩) 30
      have hb4 := hb3.alloc hb3.size (.cells (evC ⟨K, t, o⟩) 30)
      have hX := wr.heap.size
      go_upto_region 11 with fail
      clear d0 d1 d2 hb3 hL hI
      generalize hW : wr.alloc (.cells (evC ⟨K, t, o⟩) 30) = w5 at *
      have hn1 : w5.cell? ⟨wr.heap.size, 1, none⟩ = some (.int .i64 (t : Int)) := hN.cell rfl
      have m0 := hIx.cell (clkC_get (fun τ : Nat => (pL z τ k : Int)) t t6)
      have HW := Lib.hid hW
      clear hW
      cases hp : pL z t k with
      | zero =>
        rw [hp] at m0
        replace m0 : w5.cell? ⟨w2.heap.size + 1, t, none⟩ = some (.int .i64 0) := by simpa using m0
        go_wp2_with fail
        go_quiet (fail)
        clear m0 hn1
        have hL7 := hLx.drewN nq
        have hI7 := hIx.drewN nq
        have hN7 := hN.drewN nq
        have hb7 := below_drewN hb4 nq
        generalize w5.drewN nq = w6 at *
        have e1 : w6.cell? ⟨wr.heap.size, 1, none⟩ = some (.int .i64 (t : Int)) := hN7.cell rfl
        have m1 : w6.cell? ⟨w2.heap.size + 1, t, none⟩ = some (.int .i64 ((pL z t k : Nat) : Int)) := hI7.cell (clkC_get (fun τ : Nat => (pL z τ k : Int)) t t6)
        have m2 := hI7.free t
        have hwr := IntWalk.i64_in ((k : Int) + 1) (by omega)
        go_wp2_with fail
        clear e1 m1 m2 hwr
        have hI8 := hI7.setCell t (.int .i64 ((k : Int) + 1))
        rw [clkC_set _ t t6] at hI8
        replace hI8 := hI8.to (ds := clkC fun τ : Nat => (pL z τ (k + 1) : Int)) (clkC_congr fun i hi => by
          rw [HPS.out i]
          by_cases e : i = t
          · subst e; simp
          · rw [if_neg e, if_neg (by omega)])
        have hL8 := hL7.setCell_ne (a := ⟨w2.heap.size + 1, t, none⟩) (by simp) (.int .i64 ((k : Int) + 1))
        have hb8 := hb7.setCell (p := ⟨w2.heap.size + 1, t, none⟩) (by simp) (.int .i64 ((k : Int) + 1))
        clear hI7 hL7 hb7 hN7
        generalize w6.setCell ⟨w2.heap.size + 1, t, none⟩ (.int .i64 ((k : Int) + 1)) = w8 at *
        obtain ⟨a0, a1, a2, a3, a4, a5⟩ := hL8.clk
        obtain ⟨x0, x1, x2, x3, x4, x5⟩ := (hC.below hb8).sixAt hlt
        go_region_law (first | (go_simp; go_at_call 25; refine (join_any (fun τ : Nat => cntT z τ k) (stampOf z k) _).mono ?_; rintro r w9 ⟨rfl, hk9⟩; have q1 := hL8.drew.below hk9 hL8.lt; have q2 := hI8.drew.below hk9 hI8.lt; have qb := hb8.drew.trans (hk9.mono hb8.size); obtain ⟨c0, c1, c2, c3, c4, c5⟩ := q1.clk; obtain ⟨f0, f1, f2, f3, f4, f5⟩ := q1.clkFree))
        all_goals
          clear c0 c1 c2 c3 c4 c5 f0 f1 f2 f3 f4 f5 a0 a1 a2 a3 a4 a5 x0 x1 x2 x3 x4 x5
          go_wp2
          go_roundw
          case rel => exact ⟨k + 1, by omega, by go_num, ((((((q1.setCell _ _).setCell _ _).setCell _ _).setCell _ _).setCell _ _).setCell _ _).to (by rw [← clkC_congr (f := cmax (fun τ : Nat => cntT z τ k) (stampOf z k)) (g := fun τ : Nat => cntT z τ (k + 1)) fun i _ => HJ.out i]; simp [clkC]), (((((q2.setCell_ne (by simp) _).setCell_ne (by simp) _).setCell_ne (by simp) _).setCell_ne (by simp) _).setCell_ne (by simp) _).setCell_ne (by simp) _, (((((qb.setCell (Nat.le_refl _) _).setCell (Nat.le_refl _) _).setCell (Nat.le_refl _) _).setCell (Nat.le_refl _) _).setCell (Nat.le_refl _) _).setCell (Nat.le_refl _) _⟩
          case measure => (simp [intOf]; try omega)
      | succ p =>
        rw [hp] at m0 hpl
        have hpk : p < z.length := by omega
        have hwr1 := IntWalk.i64_in (((p + 1 : Nat) : Int) - 1) (by omega)
        have hwr2 : IntKind.i64.wrap (p : Int) = p := IntWalk.i64_in (p : Int) (by omega)
        have hwr3 := IntWalk.i64_in ((p : Int) + 1 - 1) (by omega)
        have g1 : (0 : Int) < ((p + 1 : Nat) : Int) := by omega
        have g2 : (0 : Int) < (p : Int) + 1 := by omega
        have p0 : (0 : Int) ≤ p := by omega
        have p1 : (p : Int) < z.length := by omega
        replace m0 : w5.cell? ⟨w2.heap.size + 1, t, none⟩ = some (.int .i64 ((p : Int) + 1)) := by simpa using m0
        have HC2 := Lib.hid (HCM.out p hlt hp)
        go_wp2_with fail
        clear m0 hn1
        have hL5 := hLx.drew
        have hI5 := hIx.drew
        have hN5 := hN.drew
        have hb5 := hb4.drew
        go_region_held3 (fun W => Below w5.drew.heap.size w5.drew W ∧ SixAt W g (p * 6) (stampOf z p) ∧ SixAt W g (k * 6) (stampOf z k))
          (first | exact ⟨Below.refl _ _, (hC.below hb5).sixAt hpk, (hC.below hb5).sixAt hlt⟩ | exact ⟨hk6, (hC.below hb6).sixAt hpk, (hC.below hb6).sixAt hlt⟩)
          (first | (go_at_call 24; refine (compare_any (stampOf z p) (stampOf z k) _).mono ?_; rintro r w6 ⟨rfl, hk6⟩; have hb6 := hb5.trans (hk6.mono hb5.size)))
        rename_i hS
        obtain ⟨hk7, _⟩ := hS
        rw [HC2.out]
        have hL7 := hL5.below hk7 hL5.lt
        have hI7 := hI5.below hk7 hI5.lt
        have hN7 := hN5.below hk7 hN5.lt
        have hb7 := hb6
        clear hk6 hk7 hb6 hwr1 hwr2 hwr3
        have e1 : w6.cell? ⟨wr.heap.size, 1, none⟩ = some (.int .i64 (t : Int)) := hN7.cell rfl
        have m1 : w6.cell? ⟨w2.heap.size + 1, t, none⟩ = some (.int .i64 ((pL z t k : Nat) : Int)) := hI7.cell (clkC_get (fun τ : Nat => (pL z τ k : Int)) t t6)
        have m2 := hI7.free t
        have hwr := IntWalk.i64_in ((k : Int) + 1) (by omega)
        go_wp2_with fail
        clear e1 m1 m2 hwr
        have hI8 := hI7.setCell t (.int .i64 ((k : Int) + 1))
        rw [clkC_set _ t t6] at hI8
        replace hI8 := hI8.to (ds := clkC fun τ : Nat => (pL z τ (k + 1) : Int)) (clkC_congr fun i hi => by
          rw [HPS.out i]
          by_cases e : i = t
          · subst e; simp
          · rw [if_neg e, if_neg (by omega)])
        have hL8 := hL7.setCell_ne (a := ⟨w2.heap.size + 1, t, none⟩) (by simp) (.int .i64 ((k : Int) + 1))
        have hb8 := hb7.setCell (p := ⟨w2.heap.size + 1, t, none⟩) (by simp) (.int .i64 ((k : Int) + 1))
        clear hI7 hL7 hb7 hN7
        generalize w6.setCell ⟨w2.heap.size + 1, t, none⟩ (.int .i64 ((k : Int) + 1)) = w8 at *
        obtain ⟨a0, a1, a2, a3, a4, a5⟩ := hL8.clk
        obtain ⟨x0, x1, x2, x3, x4, x5⟩ := (hC.below hb8).sixAt hlt
        go_region_law (first | (go_simp; go_at_call 25; refine (join_any (fun τ : Nat => cntT z τ k) (stampOf z k) _).mono ?_; rintro r w9 ⟨rfl, hk9⟩; have q1 := hL8.drew.below hk9 hL8.lt; have q2 := hI8.drew.below hk9 hI8.lt; have qb := hb8.drew.trans (hk9.mono hb8.size); obtain ⟨c0, c1, c2, c3, c4, c5⟩ := q1.clk; obtain ⟨f0, f1, f2, f3, f4, f5⟩ := q1.clkFree))
        all_goals
          clear c0 c1 c2 c3 c4 c5 f0 f1 f2 f3 f4 f5 a0 a1 a2 a3 a4 a5 x0 x1 x2 x3 x4 x5
          go_wp2
          go_roundw
          case rel => exact ⟨k + 1, by omega, by go_num, ((((((q1.setCell _ _).setCell _ _).setCell _ _).setCell _ _).setCell _ _).setCell _ _).to (by rw [← clkC_congr (f := cmax (fun τ : Nat => cntT z τ k) (stampOf z k)) (g := fun τ : Nat => cntT z τ (k + 1)) fun i _ => HJ.out i]; simp [clkC]), (((((q2.setCell_ne (by simp) _).setCell_ne (by simp) _).setCell_ne (by simp) _).setCell_ne (by simp) _).setCell_ne (by simp) _).setCell_ne (by simp) _, (((((qb.setCell (Nat.le_refl _) _).setCell (Nat.le_refl _) _).setCell (Nat.le_refl _) _).setCell (Nat.le_refl _) _).setCell (Nat.le_refl _) _).setCell (Nat.le_refl _) _⟩
          case measure => (simp [intOf]; try omega)
    · obtain rfl : k = z.length := by omega
      have hsum := sum_cnt HE.out (Nat.le_refl z.length)
      have HSUM := Lib.hid hsum
      clear hsum
      have hf : ∀ τ : Nat, 0 ≤ cntT z τ z.length ∧ cntT z τ z.length ≤ 80 := fun τ => ⟨cntT_nn _ _ _, by have := cntT_le z τ z.length; omega⟩
      have HF := Lib.hid hf
      clear hf
      generalize hF : (fun τ : Nat => cntT z τ z.length) = F at *
      have HFF := Lib.hid hF
      clear hF
      have hf : ∀ i, 0 ≤ F i ∧ F i ≤ 80 := fun i => by rw [← HFF.out]; exact HF.out i
      have HF2 := Lib.hid hf
      clear hf
      obtain ⟨a0, a1, a2, a3, a4, a5⟩ := hL.clk
      obtain ⟨wl, rfl⟩ : ∃ wl : World, wl = wr := ⟨_, rfl⟩
      go_wp2
      go_loopw [10, 75] (fun s i wr => ∃ n : Nat, n ≤ 6 ∧ i = .int .i64 n ∧ s = .int .i64 (sumC F n) ∧ wr = wl) (fun _ i _ => 6 - (intOf i).toNat)
      case atStart => exact ⟨0, Nat.zero_le _, rfl, rfl, rfl⟩
      case round =>
        obtain ⟨n, hn, rfl, rfl, rfl⟩ := hrel
        have gi : ∀ j : Nat, j < 6 → ∀ w, (Instr.index 44 (clkV F) (.int .i64 j)).run Try.prog w = .ok (.int .i64 (F j)) w := by
          intro j hj w; revert j; apply idx6 <;> kernel_rfl
        by_cases hlt : n < 6
        · have g1 := gi n hlt
          have s1 := sumC_bd HF2.out n
          have s2 := HF2.out n
          have s3 : sumC F (n + 1) = sumC F n + F n := rfl
          have S3 := Lib.hid s3
          clear gi s3
          go_wp2
          go_roundw
          case rel => exact ⟨n + 1, by omega, by go_num, by rw [S3.out], trivial⟩
          case measure => (simp [intOf]; try omega)
        · obtain rfl : n = 6 := by omega
          rw [HSUM.out]
          clear gi
          go_wp2
          go_ret
          exact ⟨rfl, hb2.trans (hb3.mono hb2.size)⟩

theorem stampRises_walk (a : Option Addr) (z : List Ev) (c : Nat) (w : World) (hf : EvS w a z ∧ z.length ≤ c ∧ z.length * 24 ≤ 140737488351232 ∧ ∀ e ∈ z, I64 e.k ∧ I64 e.t ∧ I64 e.o) :
    Calls Try.prog 11 #[.slice a z.length c] w fun e w' => e = .returned (.bool true) ∧ Below w.heap.size w w' := by
  by_cases hm : (played z).2.2 = 0
  · exact stampRises_ok a z c w hf.1 hm
  · exact stampRises_no a z c w hf.1 hm
/-! The frame of the law StampRises, by program. -/
set_option maxRecDepth 100000 in
theorem stampRises_lifted (os : Os) (started : os.Started) (H : Type) (enc : TypeId × Value → H) :
    ReturnsInHanded {} Try.checked os 11 .any (Rows.stampRisesSpec.pre6 enc Try.prog Try.f11 Rows.stampRisesRow.domain false) (Rows.stampRisesSpec.post enc Try.prog Try.f11 false true false false) := by
  refine returnsInHanded_of_change_shaped (C := Try.checked) frame_own started (by kernel_rfl) Try.func11
    (ChangeSpec.witness6 (enc := enc) (C := Try.checked) false ⟨#[], #[.slice none 0 0], []⟩ 8 (by kernel_rfl) (by kernel_rfl) (by kernel_rfl) (by kernel_rfl)) ?_
  intro W base args ds gs before hval0 hW hcnd hsz hshaped hroom
  clear hcnd hshaped
  have hval : ∀ (j : Nat) t v, Try.f11.params[j]? = some t → args[j]? = some v → Value.okWide Try.prog W .any base t v := hval0
  have hW' := hW
  obtain ⟨p, q, hA0, hV, rfl, hfz, hnd⟩ := hW
  have hA : DataW.TrodAll enc Try.prog W 0 (fun _ => true) true Try.f11.params.toList args.toList ds p := hA0
  rw [Try.params11] at hA hval
  obtain ⟨v0, vs0, d0, ds0, p0, q0, hargs, rfl, rfl, h0, r0⟩ := trodAll_cons hA
  obtain ⟨rfl, rfl, rfl⟩ := trodAll_nil r0
  obtain rfl : args = #[v0] := by cases args; simp_all
  obtain ⟨rfl, rfl⟩ := trodVars_none hV
  have k0 := h0
  have lt0 : ∀ x ∈ p0, x.block < W.heap.size := by obtain ⟨m, hm⟩ := k0; exact DataW.trod_lt m _ _ _ hm
  obtain ⟨a0, z0, c0, rfl, w0⟩ := open_evs (hval 0 22 v0 rfl rfl) h0 (fun els sp hd => sized_slice hsz (j := 0) rfl (by rw [hd]; rfl) Try.underlying22)
  clear hA0 hval0
  refine (stampRises_walk a0 z0 c0 W w0).mono fun e W' ⟨he, bel⟩ => ?_
  subst he
  exact ⟨_, rfl, _, _, _, [], _, [], hW', trodAll_mk1 (shut_bool Try.underlying4 _), (trodAll_cons_mk (Below.trod frame_laid (by kernel_rfl) (of_decide_eq_true (by kernel_rfl)) k0 bel lt0) trodAll_mk0), rfl, bel.frame _, fun h => by cases h⟩

theorem stampRises_over : Rows.stampRisesRow.holds Try.pinned (OpenSpec.ofChange Rows.stampRisesSpec) :=
  OpenClaim.holds_of_wide 11 Try.f11 rfl rfl rfl rfl rfl rfl rfl ⟨rfl, rfl, rfl, rfl, rfl⟩ rfl rfl rfl rfl rfl (by kernel_rfl) Try.func11 (by kernel_rfl)
    (of_decide_eq_true (by kernel_rfl)) (by unfold Func.isWrapper; first | (rw [if_pos (by decide +kernel)]; kernel_rfl) | (rw [if_neg (by decide +kernel)]; exact ⟨rfl, rfl⟩))
    (fun os started H enc _ => stampRises_lifted os started H enc)

/-- The statement. -/
theorem stampRises_holds : Rows.StampRisesSaid := stampRises_over

end Go.Proofs.Ytlphmkdlacnnoaa
