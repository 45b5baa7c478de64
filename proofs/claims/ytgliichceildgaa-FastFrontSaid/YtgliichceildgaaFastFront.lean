/- FastFront: flags do not depend on later events: for every trace and every number. -/
import Derived.Test.YtgliichceildgaaRows
import Derived.Test.YtgliichceildgaaFrS
import Derived.Test.YtgliichceildgaaRest
import Derived.Test.YtgliichceildgaaOpenE
namespace Go.Proofs.Ytgliichceildgaa
open Go.ChangeShapes Go.WideShapes Go.ChangeAt Go.RowKit

theorem fastRun_n (l : List Ev) (n : Nat) (hn : l.length = n) (a : Option Addr) (c : Nat) (w : World) (h : EvS w a l) (he : (played l).2.2 = 0) :
    Calls Try.prog 27 #[.slice a n c] w (FlagPost (qFlags l n) w) := by
  subst hn; exact fastRun_ok l a c w h he
theorem fastSlow_n (l : List Ev) (n : Nat) (hn : l.length = n) (a : Option Addr) (c : Nat) (w : World) (h : EvS w a l) (he : (played l).2.2 = 0) :
    Calls Try.prog 28 #[.slice a n c] w fun r w' => r = .returned (.tuple #[.int .i64 (slowUp l 8), .int .i64 0]) ∧ Below w.heap.size w w' := by
  subst hn; exact fastSlow_ok l a c w h he
theorem eqFl_n (l m : List Ev) (n : Nat) (hn : m.length = n) (a a' : Option Addr) (c c' : Nat) (w : World) (h : EvS w a l) (h' : EvS w a' m) :
    Calls Try.prog 24 #[.slice a l.length c, .slice a' n c'] w fun e w' => e = .returned (.bool (eqB l m)) ∧ Below w.heap.size w w' := by
  subst hn; exact eqFl_any l m a a' c c' w h h'
theorem eqFl_self {A B rr : List Ev} (hA : A = B ++ rr) (a a' : Option Addr) (c c' : Nat) (w : World) (h : EvS w a B) (h' : EvS w a' A) :
    Calls Try.prog 24 #[.slice a B.length c, .slice a' B.length c'] w fun e w' => e = .returned (.bool true) ∧ Below w.heap.size w w' := by
  have h2 : A.take B.length = B := by rw [hA]; simp
  have h3 := h'.take B.length
  rw [h2] at h3
  have := eqFl_any B B a a' c c' w h h3
  rwa [show eqB B B = true by simp [eqB]] at this
theorem fastFront_no (a : Option Addr) (z : List Ev) (c : Nat) (n : Int) (w : World) (h : EvS w a z) (he : mayB z = false) :
    Calls Try.prog 11 #[.slice a z.length c, .int .i64 n] w fun e w' => e = .returned (.bool true) ∧ Below w.heap.size w w' := by
  go_enter Try.func11, Try.ntmps11
  go_wp2_with fail
  refine (fasted_any _).mono ?_
  rintro r w1 ⟨rfl, hb⟩
  go_wp2_with fail
  refine (may_any z a c _ (h.below hb)).mono ?_
  rintro r w2 ⟨rfl, hk⟩
  rw [he]
  go_wp2
  go_ret
  exact ⟨rfl, hb.trans (hk.mono hb.size)⟩

set_option maxRecDepth 100000 in
set_option maxHeartbeats 8000000 in
theorem fastFront_ok (a : Option Addr) (z : List Ev) (c : Nat) (n : Int) (w : World) (h : EvS w a z) (hc : z.length ≤ c) (hm : mayB z = true) :
    Calls Try.prog 11 #[.slice a z.length c, .int .i64 n] w fun e w' => e = .returned (.bool true) ∧ Below w.heap.size w w' := by
  have he := mayB_played hm
  have hbig := h.big
  have hl80 := (played_evs he).1
  obtain ⟨nn, hnn, hnz⟩ : ∃ k : Nat, n % ((z.length : Int) + 1) = k ∧ k ≤ z.length := ⟨(n % ((z.length : Int) + 1)).toNat, by have := Int.emod_nonneg n (show (z.length : Int) + 1 ≠ 0 by omega); omega, by have := Int.emod_lt_of_pos n (show 0 < (z.length : Int) + 1 by omega); omega⟩
  have hmt := mayB_take nn hm
  have hlt : (z.take nn).length = nn := by simp; omega
  have hfr := fastRun_n (z.take nn) nn hlt
  have HSL := Lib.hid (fastSlow_n (z.take nn) nn hlt)
  have hts := slowUp_take z nn hnz 8
  generalize hS : slowUp z 8 = S at *
  generalize slowUp (z.take nn) 8 = T at *
  have HS := Lib.hid hS
  have hTS : decide (T ≤ S) = true := decide_eq_true hts
  clear hS hts
  rw [qFlags_take z nn nn (Nat.le_refl _)] at hfr
  obtain ⟨rr, hsp, hrr⟩ := qFlags_split z nn z.length hnz
  have hlow := qFlags_lt z nn
  have hfl := qFlags_len z z.length
  have HF := Lib.hid hfr
  have HT := Lib.hid (mayB_played hmt)
  have HN := Lib.hid hnn
  have HM := Lib.hid hm
  have HE := Lib.hid he
  have HR := Lib.hid hrr
  have HW := Lib.hid hlow
  generalize hA : qFlags z z.length = A at *
  generalize hB : qFlags z nn = B at *
  have HA := Lib.hid hA
  have HSP := Lib.hid hsp
  have HQ := Lib.hid (eqFl_self hsp)
  have hBl : B.length ≤ A.length := by rw [hsp]; simp
  clear hm he hmt hlt hnn hfr hrr hlow hA hB hsp
  go_enter Try.func11, Try.ntmps11
  go_wp2_with fail
  refine (fasted_any _).mono ?_
  rintro r w1 ⟨rfl, hb⟩
  go_wp2_with fail
  refine (may_any z _ c _ (h.below hb)).mono ?_
  rintro r w2 ⟨rfl, hk⟩
  rw [HM.out]
  replace hb := hb.trans (hk.mono hb.size)
  clear hk
  go_wp2_with fail
  refine (rest_any n ((z.length : Int) + 1) _ (by omega) (by omega)).mono ?_
  rintro r w3 ⟨rfl, hw⟩
  rw [hw]
  clear hw
  rw [HN.out]
  go_wp2_with fail
  refine (fastRun_ok z a c _ (h.below hb) HE.out).mono ?_
  rintro r w3 ⟨v1, rfl, hown1, hk⟩
  rw [HA.out] at hown1
  have hex : ∃ a2 c2, v1 = .slice a2 A.length c2 ∧ EvS w3 a2 A ∧ A.length ≤ c2 := evS_own_cap hown1 (by omega)
  obtain ⟨a1, c1, rfl, hAS, hAc⟩ := hex
  replace hb := hb.trans (hk.mono hb.size)
  clear hk hown1
  have n0 : (0 : Int) ≤ nn := by omega
  have n1 : (nn : Int) ≤ c := by omega
  go_wp2_with fail
  refine (HF.out a c _ ((h.take nn).below hb) HT.out).mono ?_
  rintro r w4 ⟨v2, rfl, hown2, hk⟩
  have hex : ∃ a2 c2, v2 = .slice a2 B.length c2 ∧ EvS w4 a2 B := by
    obtain ⟨a, c, h1, h2, _⟩ := evS_own hown2 (by omega)
    exact ⟨a, c, h1, h2⟩
  obtain ⟨a2, c2, rfl, hBS⟩ := hex
  replace hAS := hAS.below hk
  replace hb := hb.trans (hk.mono hb.size)
  clear hk hown2
  go_wp2_with fail
  refine (fastSlow_ok z a c _ (h.below hb) HE.out).mono ?_
  rintro r w5 ⟨rfl, hk⟩
  rw [HS.out]
  replace hAS := hAS.below hk
  replace hBS := hBS.below hk
  replace hb := hb.trans (hk.mono hb.size)
  clear hk
  go_wp2_with fail
  refine (HSL.out a c _ ((h.take nn).below hb) HT.out).mono ?_
  rintro r w6 ⟨rfl, hk⟩
  replace hAS := hAS.below hk
  replace hBS := hBS.below hk
  replace hb := hb.trans (hk.mono hb.size)
  clear hk h
  go_wp2
  go_loopw [13] (fun i wr => ∃ k : Nat, k ≤ B.length ∧ i = .int .i64 k ∧ wr = w6) (fun i _ => A.length - (intOf i).toNat)
  case atStart => exact ⟨0, Nat.zero_le _, rfl, rfl⟩
  case round =>
    obtain ⟨k, hk, rfl, rfl⟩ := hrel
    have k0 : (0 : Int) ≤ k := by omega
    by_cases hkA : k < A.length
    · have hkd : decide ((k : Int) < (A.length : Int)) = true := decide_eq_true (by omega)
      have k1 : (k : Int) < A.length := by omega
      obtain ⟨b', o', rfl, d0, d1, d2⟩ := hAS.at hkA
      by_cases hkB : k < B.length
      · have hx : A[k] = B[k] := by simp only [HSP.out]; exact List.getElem_append_left hkB
        have hv : decide (A[k].k < (nn : Int)) = true := by rw [hx]; exact decide_eq_true (HW.out _ (List.getElem_mem hkB)).2
        generalize A[k] = x at *
        clear hx
        go_wp2
        go_roundw
        case rel => exact ⟨k + 1, by omega, by go_num, trivial⟩
        case measure => (simp [intOf]; try omega)
      · obtain rfl : k = B.length := by omega
        have hv : decide (A[B.length].k < (nn : Int)) = false := by
          refine decide_eq_false ?_
          have hm : A[B.length] ∈ rr := by
            have : A[B.length] = rr[0]'(by have := congrArg List.length HSP.out; simp at this; omega) := by
              simp only [HSP.out]
              rw [List.getElem_append_right (Nat.le_refl _)]
              simp
            rw [this]
            exact List.getElem_mem _
          have := HR.out _ hm
          omega
        have hBc : (B.length : Int) ≤ c1 := by omega
        generalize A[B.length] = x at *
        go_wp2_with fail
        refine (HQ.out a2 _ c2 c1 _ hBS hAS).mono ?_
        rintro r w7 ⟨rfl, hk6⟩
        go_wp2
        go_ret
        exact ⟨rfl, hb.trans (hk6.mono hb.size)⟩
    · obtain rfl : k = B.length := by omega
      have hBA : B.length = A.length := by omega
      have hkd : decide ((B.length : Int) < (A.length : Int)) = false := decide_eq_false (by omega)
      have hBc : (B.length : Int) ≤ c1 := by omega
      clear hBA hk hBl
      go_wp2_with fail
      refine (HQ.out a2 _ c2 c1 _ hBS hAS).mono ?_
      rintro r w7 ⟨rfl, hk6⟩
      go_wp2
      go_ret
      exact ⟨rfl, hb.trans (hk6.mono hb.size)⟩
theorem fastFront_walk (a : Option Addr) (z : List Ev) (c : Nat) (n : Int) (w : World) (hf : EvS w a z ∧ z.length ≤ c ∧ z.length * 24 ≤ 140737488351232 ∧ ∀ e ∈ z, I64 e.k ∧ I64 e.t ∧ I64 e.o) (_ : I64 n) :
    Calls Try.prog 11 #[.slice a z.length c, .int .i64 n] w fun e w' => e = .returned (.bool true) ∧ Below w.heap.size w w' := by
  cases hm : mayB z
  · exact fastFront_no a z c n w hf.1 hm
  · exact fastFront_ok a z c n w hf.1 hf.2.1 hm
/-! The frame of the law FastFront, by program. -/
set_option maxRecDepth 100000 in
theorem fastFront_lifted (os : Os) (started : os.Started) (H : Type) (enc : TypeId × Value → H) :
    ReturnsInHanded {} Try.checked os 11 .any (Rows.fastFrontSpec.pre6 enc Try.prog Try.f11 Rows.fastFrontRow.domain false) (Rows.fastFrontSpec.post enc Try.prog Try.f11 false true false false) := by
  refine returnsInHanded_of_change_shaped (C := Try.checked) frame_own started (by kernel_rfl) Try.func11
    (ChangeSpec.witness6 (enc := enc) (C := Try.checked) false ⟨#[], #[.slice none 0 0, .int .i64 0], []⟩ 8 (by kernel_rfl) (by kernel_rfl) (by kernel_rfl) (by kernel_rfl)) ?_
  intro W base args ds gs before hval0 hW hcnd hsz hshaped hroom
  clear hcnd hshaped
  have hval : ∀ (j : Nat) t v, Try.f11.params[j]? = some t → args[j]? = some v → Value.okWide Try.prog W .any base t v := hval0
  have hW' := hW
  obtain ⟨p, q, hA0, hV, rfl, hfz, hnd⟩ := hW
  have hA : DataW.TrodAll enc Try.prog W 0 (fun _ => true) true Try.f11.params.toList args.toList ds p := hA0
  rw [Try.params11] at hA hval
  obtain ⟨v0, vs0, d0, ds0, p0, q0, hargs, rfl, rfl, h0, r0⟩ := trodAll_cons hA
  obtain ⟨v1, vs1, d1, ds1, p1, q1, rfl, rfl, rfl, h1, r1⟩ := trodAll_cons r0
  obtain ⟨rfl, rfl, rfl⟩ := trodAll_nil r1
  obtain rfl : args = #[v0, v1] := by cases args; simp_all
  obtain ⟨rfl, rfl⟩ := trodVars_none hV
  have k0 := h0
  have lt0 : ∀ x ∈ p0, x.block < W.heap.size := by obtain ⟨m, hm⟩ := k0; exact DataW.trod_lt m _ _ _ hm
  obtain ⟨a0, z0, c0, rfl, w0⟩ := open_evs (hval 0 22 v0 rfl rfl) h0 (fun els sp hd => sized_slice hsz (j := 0) rfl (by rw [hd]; rfl) Try.underlying22)
  have k1 := h1
  have lt1 : ∀ x ∈ p1, x.block < W.heap.size := by obtain ⟨m, hm⟩ := k1; exact DataW.trod_lt m _ _ _ hm
  obtain ⟨a1, rfl, rfl, rfl, w1⟩ := open_int Try.underlying3 (hval 1 3 v1 rfl rfl) h1
  clear hA0 hval0
  refine (fastFront_walk a0 z0 c0 a1 W w0 (wf_i64 w1)).mono fun e W' ⟨he, bel⟩ => ?_
  subst he
  exact ⟨_, rfl, _, _, _, [], _, [], hW', trodAll_mk1 (shut_bool Try.underlying4 _), (trodAll_cons_mk (Below.trod frame_laid (by kernel_rfl) (of_decide_eq_true (by kernel_rfl)) k0 bel lt0) (trodAll_cons_mk (Below.trod frame_laid (by kernel_rfl) (of_decide_eq_true (by kernel_rfl)) k1 bel lt1) trodAll_mk0)), rfl, bel.frame _, fun h => by cases h⟩

theorem fastFront_over : Rows.fastFrontRow.holds Try.pinned (OpenSpec.ofChange Rows.fastFrontSpec) :=
  OpenClaim.holds_of_wide 11 Try.f11 rfl rfl rfl rfl rfl rfl rfl ⟨rfl, rfl, rfl, rfl, rfl⟩ rfl rfl rfl rfl rfl (by kernel_rfl) Try.func11 (by kernel_rfl)
    (of_decide_eq_true (by kernel_rfl)) (by unfold Func.isWrapper; first | (rw [if_pos (by decide +kernel)]; kernel_rfl) | (rw [if_neg (by decide +kernel)]; exact ⟨rfl, rfl⟩))
    (fun os started H enc _ => fastFront_lifted os started H enc)

/-- The statement. -/
theorem fastFront_holds : Rows.FastFrontSaid := fastFront_over

end Go.Proofs.Ytgliichceildgaa
