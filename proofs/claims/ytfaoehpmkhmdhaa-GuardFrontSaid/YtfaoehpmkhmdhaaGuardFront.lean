/- GuardFront: warnings do not depend on later events, and after a warning every further access is one: for every trace and every number. -/
import Derived.Test.YtfaoehpmkhmdhaaRows
import Derived.Test.YtfaoehpmkhmdhaaGdJ
import Derived.Test.YtfaoehpmkhmdhaaHasF
import Derived.Test.YtfaoehpmkhmdhaaRest
import Derived.Test.YtfaoehpmkhmdhaaQui
import Derived.Test.YtfaoehpmkhmdhaaOpenE
namespace Go.Proofs.Ytfaoehpmkhmdhaa
open Go.ChangeShapes Go.WideShapes Go.ChangeAt Go.RowKit

theorem warns_n (l : List Ev) (n : Nat) (hn : l.length = n) (A : List Ev) (hA : gWs l = A) (he : (played l).2.2 = 0) (a : Option Addr) (c : Nat) (w : World) (h : EvS w a l) :
    Calls Try.prog 18 #[.slice a n c] w fun r w' => ∃ a' c', r = .returned (.tuple #[.slice a' A.length c', .int .i64 0]) ∧ EvS w' a' A ∧ A.length ≤ c' ∧ Below w.heap.size w w' := by
  subst hn
  subst hA
  have := warns_any l a c w h
  unfold WarnsPost at this
  rwa [he] at this
theorem eqFl_self {A B rr : List Ev} (hA : A = B ++ rr) (a a' : Option Addr) (c c' : Nat) (w : World) (h : EvS w a B) (h' : EvS w a' A) :
    Calls Try.prog 19 #[.slice a B.length c, .slice a' B.length c'] w fun e w' => e = .returned (.bool true) ∧ Below w.heap.size w w' := by
  have h2 : A.take B.length = B := by rw [hA]; simp
  have h3 := h'.take B.length
  rw [h2] at h3
  have := eqFl_any B B a a' c c' w h h3
  rwa [show eqB B B = true by simp [eqB]] at this
theorem hasFl_yes (l : List Ev) (x : Ev) (hx : x ∈ l) (a : Option Addr) (c : Nat) (w : World) (h : EvS w a l) :
    Calls Try.prog 20 #[.slice a l.length c, evV x] w fun e w' => e = .returned (.bool true) ∧ Below w.heap.size w w' := by
  have := hasFl_any l x a c w h
  rwa [show hasB l x = true by simp [hasB, hx]] at this
theorem guardFront_no (a : Option Addr) (z : List Ev) (c : Nat) (n : Int) (w : World) (h : EvS w a z) (he : mayB z = false) :
    Calls Try.prog 4 #[.slice a z.length c, .int .i64 n] w fun e w' => e = .returned (.bool true) ∧ Below w.heap.size w w' := by
  go_enter Try.func4, Try.ntmps4
  go_wp2_with fail
  refine (guarded_any _).mono ?_
  rintro r w1 ⟨rfl, hb⟩
  go_wp2_with fail
  refine (may_any z a c _ (h.below hb)).mono ?_
  rintro r w2 ⟨rfl, hk⟩
  rw [he]
  go_wp2
  go_ret
  exact ⟨rfl, hb.trans (hk.mono hb.size)⟩

set_option maxRecDepth 100000 in
set_option maxHeartbeats 8000000 in
theorem guardFront_ok (a : Option Addr) (z : List Ev) (c : Nat) (n : Int) (w : World) (h : EvS w a z) (hc : z.length ≤ c) (hm : mayB z = true) :
    Calls Try.prog 4 #[.slice a z.length c, .int .i64 n] w fun e w' => e = .returned (.bool true) ∧ Below w.heap.size w w' := by
  have he : (played z).2.2 = 0 := by simpa [mayB] using hm
  have hbig := h.big
  have hl80 := (played_evs he).1
  obtain ⟨nn, hnn, hnz⟩ : ∃ k : Nat, n % ((z.length : Int) + 1) = k ∧ k ≤ z.length := ⟨(n % ((z.length : Int) + 1)).toNat, by have := Int.emod_nonneg n (show (z.length : Int) + 1 ≠ 0 by omega); omega, by have := Int.emod_lt_of_pos n (show 0 < (z.length : Int) + 1 by omega); omega⟩
  have hmt := mayB_take nn hm
  have hlt : (z.take nn).length = nn := by simp; omega
  have hwt : gWs (z.take nn) = (gdL z nn).W := by rw [gWs_may hmt, hlt, gdL_take z nn nn (Nat.le_refl _)]
  obtain ⟨rr, hsp, hrr⟩ := gW_split z nn z.length hnz
  have hlow := gW_lt z nn
  have hlw := gW_lt z z.length
  have hag := gW_again he z.length (Nat.le_refl _)
  have hfl := (gdL_ok he (Nat.le_refl _)).W
  have hwz := gWs_may hm
  generalize hA : (gdL z z.length).W = A at *
  generalize hB : (gdL z nn).W = B at *
  have HF := Lib.hid (warns_n (z.take nn) nn hlt B hwt (by simpa [mayB] using hmt))
  have HG := Lib.hid (warns_n z z.length rfl A hwz he)
  have HEV := Lib.hid (show ∀ j : Nat, j < z.length → isEv (evAt z j) = true from fun j hj => isEv_iff.2 (ev_at he hj))
  have HN := Lib.hid hnn
  have HM := Lib.hid hm
  have HE := Lib.hid he
  have HR := Lib.hid hrr
  have HW := Lib.hid hlow
  have HLW := Lib.hid hlw
  have HAG := Lib.hid hag
  have HSP := Lib.hid hsp
  have HQ := Lib.hid (eqFl_self hsp)
  have hBl : B.length ≤ A.length := by rw [hsp]; simp
  clear hm he hmt hlt hnn hrr hlow hA hB hsp hlw hag hwz hwt
  go_enter Try.func4, Try.ntmps4
  go_wp2_with fail
  refine (guarded_any _).mono ?_
  rintro r w1 ⟨rfl, hb⟩
  go_wp2_with fail
  refine (may_any z _ c _ (h.below hb)).mono ?_
  rintro r w2 ⟨rfl, hk⟩
  rw [HM.out]
  replace hb := hb.trans (hk.mono hb.size)
  clear hk
  go_wp2_with fail
  refine (rest_any n ((z.length : Int) + 1) _ (by omega) (by omega)).mono ?_
  rintro r w3 ⟨rfl, hw⟩
  rw [hw]
  clear hw
  rw [HN.out]
  go_wp2_with fail
  refine (HG.out a c _ (h.below hb)).mono ?_
  rintro r w3 ⟨a1, c1, rfl, hAS, hAc, hk⟩
  replace hb := hb.trans (hk.mono hb.size)
  clear hk
  have n0 : (0 : Int) ≤ nn := by omega
  have n1 : (nn : Int) ≤ c := by omega
  go_wp2_with fail
  refine (HF.out a c _ ((h.take nn).below hb)).mono ?_
  rintro r w4 ⟨a2, c2, rfl, hBS, _, hk⟩
  replace hAS := hAS.below hk
  replace hb := hb.trans (hk.mono hb.size)
  clear hk
  go_wp2
  go_loopw [9] (fun i wr => ∃ k : Nat, k ≤ B.length ∧ i = .int .i64 k ∧ wr = w4) (fun i _ => A.length - (intOf i).toNat)
  case atStart => exact ⟨0, Nat.zero_le _, rfl, rfl⟩
  case round =>
    obtain ⟨k, hk, rfl, rfl⟩ := hrel
    have k0 : (0 : Int) ≤ k := by omega
    by_cases hkB : k < B.length
    · have hkA : k < A.length := by omega
      have hkd : decide ((k : Int) < (A.length : Int)) = true := decide_eq_true (by omega)
      have k1 : (k : Int) < A.length := by omega
      obtain ⟨b', o', rfl, d0, d1, d2⟩ := hAS.at hkA
      have hx : A[k] = B[k] := by simp only [HSP.out]; exact List.getElem_append_left hkB
      have hv : decide (A[k].k < (nn : Int)) = true := by rw [hx]; exact decide_eq_true (HW.out _ (List.getElem_mem hkB)).2
      generalize A[k] = x at *
      clear hx
      go_wp2
      go_roundw
      case rel => exact ⟨k + 1, by omega, by go_num, trivial⟩
      case measure => (simp [intOf]; try omega)
    · obtain rfl : k = B.length := by omega
      go_upto_region 9 with fail
      go_cut [47] (fun v wz => v = .bool false ∧ wz = wr)
      case first =>
        by_cases hkA : B.length < A.length
        · have hkd : decide ((B.length : Int) < (A.length : Int)) = true := decide_eq_true (by omega)
          have k1 : (B.length : Int) < A.length := by omega
          obtain ⟨b', o', rfl, d0, d1, d2⟩ := hAS.at hkA
          have hv : decide (A[B.length].k < (nn : Int)) = false := by
            refine decide_eq_false ?_
            have hm : A[B.length] ∈ rr := by
              have : A[B.length] = rr[0]'(by have := congrArg List.length HSP.out; simp at this; omega) := by
                simp only [HSP.out]
                rw [List.getElem_append_right (Nat.le_refl _)]
                simp
              rw [this]
              exact List.getElem_mem _
            have := HR.out _ hm
            omega
          generalize A[B.length] = x at *
          go_wp2
          go_meet
          exact ⟨rfl, rfl⟩
        · have hkd : decide ((B.length : Int) < (A.length : Int)) = false := decide_eq_false (by omega)
          go_wp2
          go_meet
          exact ⟨rfl, rfl⟩
      case rest =>
        obtain ⟨rfl, rfl⟩ := hcut
        have hBc : (B.length : Int) ≤ c1 := by omega
        have hB0 : (0 : Int) ≤ B.length := by omega
        go_wp2_with fail
        refine (HQ.out a2 _ c2 c1 _ hBS hAS).mono ?_
        rintro r w6 ⟨rfl, hk6⟩
        replace hAS := hAS.below hk6
        replace hb := hb.trans (hk6.mono hb.size)
        clear hk6 hBS hBc hB0 hBl n0 n1
        have hbR := Below.refl w6.heap.size w6
        go_wp2
        go_loopw [66] (fun i wr => ∃ m : Nat, m ≤ A.length ∧ i = .int .i64 m ∧ Below w.heap.size w wr ∧ Below w6.heap.size w6 wr) (fun i _ => A.length - (intOf i).toNat)
        case atStart => exact ⟨0, Nat.zero_le _, rfl, hb, hbR⟩
        case round =>
          clear hb hbR
          obtain ⟨m, hm, rfl, hb5, hb6⟩ := hrel
          by_cases hlt : m < A.length
          · obtain ⟨b1, o1, rfl, e0, e1, e2⟩ := (hAS.below hb6).at hlt
            have hmem := List.getElem_mem hlt
            have hfk := HLW.out _ hmem
            obtain ⟨ho, x, hx, _, _, hyes⟩ := HAG.out _ hmem
            have m0 : (0 : Int) ≤ m := by omega
            have m1 : (m : Int) < A.length := by omega
            clear hmem
            generalize A[m] = f at *
            obtain ⟨fk, ft, fo⟩ := f
            simp only at hfk ho hx hyes e0 e1 e2
            subst ho hx
            obtain ⟨p, rfl⟩ := Int.eq_ofNat_of_zero_le hfk.1
            have hpz : p < z.length := by omega
            have HYES := Lib.hid hyes
            have hN := Has.new wr (evC ⟨p, x, 0⟩) 36
            have hb7 := hb5.alloc hb5.size (.cells (evC ⟨p, x, 0⟩) 36)
            have hb8 := hb6.alloc hb6.size (.cells (evC ⟨p, x, 0⟩) 36)
            have hw := IntWalk.i64_in ((p : Int) + 1) (by omega)
            clear hyes hfk
            go_upto_region 16 with fail
            clear e0 e1 e2 hb5 hb6
            generalize wr.alloc (.cells (evC ⟨p, x, 0⟩) 36) = w7 at *
            generalize wr.heap.size = BX at *
            have n0 : w7.cell? ⟨BX, 0, none⟩ = some (.int .i64 p) := hN.cell rfl
            go_wp2
            go_loopw [12] (fun j wi => ∃ q : Nat, p < q ∧ q ≤ z.length ∧ j = .int .i64 q ∧ Has wi BX (evC ⟨p, x, 0⟩) 36 ∧ Below w.heap.size w wi ∧ Below w6.heap.size w6 wi) (fun j _ => z.length - (intOf j).toNat)
            case atStart => exact ⟨p + 1, by omega, by omega, by go_num, hN, hb7, hb8⟩
            case round =>
              clear hN hb7 hb8 n0 hw
              obtain ⟨q, hpq, hq, rfl, hN, hb7, hb8⟩ := hrel
              by_cases hql : q < z.length
              · obtain ⟨b, o, rfl, d0, d1, d2⟩ := (h.below hb7).at hql
                have hE := HEV.out q hql
                have hy := HYES.out q (by omega) hql
                have hev := evAt_lt hql
                rw [← hev] at d0 d1 d2
                clear hev
                generalize evAt z q = y at *
                have hacc := acc_iff hE
                obtain ⟨yk, yt, yo⟩ := y
                simp only at d0 d1 d2 hy hacc
                have hw := IntWalk.i64_in ((q : Int) + 1) (by omega)
                have i0 : (0 : Int) ≤ q := by omega
                have i1 : (q : Int) < z.length := by omega
                replace d0 : ∀ p : Beyond wr, p.to.cell? ⟨b, o + q * 3, none⟩ = some (.int .i64 yk) := fun p => p.cell d0
                replace d2 : ∀ p : Beyond wr, p.to.cell? ⟨b, o + q * 3 + 2, none⟩ = some (.int .i64 yo) := fun p => p.cell d2
                have n1 : ∀ p : Beyond wr, p.to.cell? ⟨BX, 1, none⟩ = some (.int .i64 x) := fun p => p.cell (hN.cell rfl)
                clear d1 hE
                by_cases q1 : yk > 2
                · have r1 : decide (yk ≤ 2) = false := decide_eq_false (by omega)
                  clear hy hacc q1
                  go_upto_region 19 with fail
                  refine wp_region_beyond (by kernel_rfl) (by kernel_rfl) ?_
                  repeat (with_reducible refine wpQuiet_step (fun K hK => ?_); go_simp; first | (with_reducible refine hK _ ?_) | (refine ⟨_, HC2.out, ?_⟩; with_reducible refine hK _ ?_); clear hK K)
                  with_reducible refine wpQuiet_nil ?_
                  rintro _ ⟨p9, rfl⟩
                  have hN9 := hN.below p9.below hN.lt
                  have hb9 := hb7.trans (p9.below.mono hb7.size)
                  have hb10 := hb8.trans (p9.below.mono hb8.size)
                  clear d0 d2 n1 hN hb7 hb8
                  generalize p9.to = w9 at *
                  go_wp2
                  go_roundw
                  case rel => exact ⟨q + 1, by omega, by omega, by go_num, hN9, hb9, hb10⟩
                  case measure => (simp [intOf]; try omega)
                · have r1 : decide (yk ≤ 2) = true := decide_eq_true (by omega)
                  by_cases q2 : yo = x
                  · subst q2
                    have hmem := hy (hacc.2 q1) rfl
                    have HC2 := Lib.hid fun p : Beyond wr => beyond_of (hasFl_yes A ⟨q, x, 0⟩ hmem (some ⟨b1, o1, none⟩) c1 p.to ((hAS.below hb8).below p.below))
                    clear hmem hy hacc q1
                    go_upto_region 19 with fail
                    refine wp_region_beyond (by kernel_rfl) (by kernel_rfl) ?_
                    repeat (with_reducible refine wpQuiet_step (fun K hK => ?_); go_simp; first | (with_reducible refine hK _ ?_) | (refine ⟨_, HC2.out, ?_⟩; with_reducible refine hK _ ?_); clear hK K)
                    with_reducible refine wpQuiet_nil ?_
                    rintro _ ⟨p9, rfl⟩
                    have hN9 := hN.below p9.below hN.lt
                    have hb9 := hb7.trans (p9.below.mono hb7.size)
                    have hb10 := hb8.trans (p9.below.mono hb8.size)
                    clear d0 d2 n1 HC2 hN hb7 hb8
                    generalize p9.to = w9 at *
                    go_wp2
                    go_roundw
                    case rel => exact ⟨q + 1, by omega, by omega, by go_num, hN9, hb9, hb10⟩
                    case measure => (simp [intOf]; try omega)
                  · have r2 : (yo == (x : Int)) = false := beq_eq_false_iff_ne.2 q2
                    clear hy hacc q1 q2
                    go_upto_region 19 with fail
                    refine wp_region_beyond (by kernel_rfl) (by kernel_rfl) ?_
                    repeat (with_reducible refine wpQuiet_step (fun K hK => ?_); go_simp; first | (with_reducible refine hK _ ?_) | (refine ⟨_, HC2.out, ?_⟩; with_reducible refine hK _ ?_); clear hK K)
                    with_reducible refine wpQuiet_nil ?_
                    rintro _ ⟨p9, rfl⟩
                    have hN9 := hN.below p9.below hN.lt
                    have hb9 := hb7.trans (p9.below.mono hb7.size)
                    have hb10 := hb8.trans (p9.below.mono hb8.size)
                    clear d0 d2 n1 hN hb7 hb8
                    generalize p9.to = w9 at *
                    go_wp2
                    go_roundw
                    case rel => exact ⟨q + 1, by omega, by omega, by go_num, hN9, hb9, hb10⟩
                    case measure => (simp [intOf]; try omega)
              · obtain rfl : q = z.length := by omega
                go_wp2
                go_roundw
                case rel => exact ⟨m + 1, by omega, by go_num, hb7, hb8⟩
                case measure => (simp [intOf]; try omega)
          · obtain rfl : m = A.length := by omega
            go_wp2
            go_ret
            exact ⟨rfl, hb5⟩
theorem guardFront_walk (a : Option Addr) (z : List Ev) (c : Nat) (n : Int) (w : World) (hf : EvS w a z ∧ z.length ≤ c ∧ z.length * 24 ≤ 140737488351232 ∧ ∀ e ∈ z, I64 e.k ∧ I64 e.t ∧ I64 e.o) (_ : I64 n) :
    Calls Try.prog 4 #[.slice a z.length c, .int .i64 n] w fun e w' => e = .returned (.bool true) ∧ Below w.heap.size w w' := by
  cases hm : mayB z
  · exact guardFront_no a z c n w hf.1 hm
  · exact guardFront_ok a z c n w hf.1 hf.2.1 hm
/-! The frame of the law GuardFront, by program. -/
set_option maxRecDepth 100000 in
theorem guardFront_lifted (os : Os) (started : os.Started) (H : Type) (enc : TypeId × Value → H) :
    ReturnsInHanded {} Try.checked os 4 .any (Rows.guardFrontSpec.pre6 enc Try.prog Try.f4 Rows.guardFrontRow.domain false) (Rows.guardFrontSpec.post enc Try.prog Try.f4 false true false false) := by
  refine returnsInHanded_of_change_shaped (C := Try.checked) frame_own started (by kernel_rfl) Try.func4
    (ChangeSpec.witness6 (enc := enc) (C := Try.checked) false ⟨#[], #[.slice none 0 0, .int .i64 0], []⟩ 8 (by kernel_rfl) (by kernel_rfl) (by kernel_rfl) (by kernel_rfl)) ?_
  intro W base args ds gs before hval0 hW hcnd hsz hshaped hroom
  clear hcnd hshaped
  have hval : ∀ (j : Nat) t v, Try.f4.params[j]? = some t → args[j]? = some v → Value.okWide Try.prog W .any base t v := hval0
  have hW' := hW
  obtain ⟨p, q, hA0, hV, rfl, hfz, hnd⟩ := hW
  have hA : DataW.TrodAll enc Try.prog W 0 (fun _ => true) true Try.f4.params.toList args.toList ds p := hA0
  rw [Try.params4] at hA hval
  obtain ⟨v0, vs0, d0, ds0, p0, q0, hargs, rfl, rfl, h0, r0⟩ := trodAll_cons hA
  obtain ⟨v1, vs1, d1, ds1, p1, q1, rfl, rfl, rfl, h1, r1⟩ := trodAll_cons r0
  obtain ⟨rfl, rfl, rfl⟩ := trodAll_nil r1
  obtain rfl : args = #[v0, v1] := by cases args; simp_all
  obtain ⟨rfl, rfl⟩ := trodVars_none hV
  have k0 := h0
  have lt0 : ∀ x ∈ p0, x.block < W.heap.size := by obtain ⟨m, hm⟩ := k0; exact DataW.trod_lt m _ _ _ hm
  obtain ⟨a0, z0, c0, rfl, w0⟩ := open_evs (hval 0 28 v0 rfl rfl) h0 (fun els sp hd => sized_slice hsz (j := 0) rfl (by rw [hd]; rfl) Try.underlying28)
  have k1 := h1
  have lt1 : ∀ x ∈ p1, x.block < W.heap.size := by obtain ⟨m, hm⟩ := k1; exact DataW.trod_lt m _ _ _ hm
  obtain ⟨a1, rfl, rfl, rfl, w1⟩ := open_int Try.underlying3 (hval 1 3 v1 rfl rfl) h1
  clear hA0 hval0
  refine (guardFront_walk a0 z0 c0 a1 W w0 (wf_i64 w1)).mono fun e W' ⟨he, bel⟩ => ?_
  subst he
  exact ⟨_, rfl, _, _, _, [], _, [], hW', trodAll_mk1 (shut_bool Try.underlying4 _), (trodAll_cons_mk (Below.trod frame_laid (by kernel_rfl) (of_decide_eq_true (by kernel_rfl)) k0 bel lt0) (trodAll_cons_mk (Below.trod frame_laid (by kernel_rfl) (of_decide_eq_true (by kernel_rfl)) k1 bel lt1) trodAll_mk0)), rfl, bel.frame _, fun h => by cases h⟩

theorem guardFront_over : Rows.guardFrontRow.holds Try.pinned (OpenSpec.ofChange Rows.guardFrontSpec) :=
  OpenClaim.holds_of_wide 4 Try.f4 rfl rfl rfl rfl rfl rfl rfl ⟨rfl, rfl, rfl, rfl, rfl⟩ rfl rfl rfl rfl rfl (by kernel_rfl) Try.func4 (by kernel_rfl)
    (of_decide_eq_true (by kernel_rfl)) (by unfold Func.isWrapper; first | (rw [if_pos (by decide +kernel)]; kernel_rfl) | (rw [if_neg (by decide +kernel)]; exact ⟨rfl, rfl⟩))
    (fun os started H enc _ => guardFront_lifted os started H enc)

/-- The statement. -/
theorem guardFront_holds : Rows.GuardFrontSaid := guardFront_over

end Go.Proofs.Ytfaoehpmkhmdhaa
