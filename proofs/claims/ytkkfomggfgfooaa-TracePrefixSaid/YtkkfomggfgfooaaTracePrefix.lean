/- TracePrefix: each prefix of a valid trace is valid; before the index of an error the trace is valid: for every trace and every number. -/
import Derived.Test.YtkkfomggfgfooaaRows
import Derived.Test.YtkkfomggfgfooaaTrE
import Derived.Test.YtkkfomggfgfooaaOpenE
namespace Go.Proofs.Ytkkfomggfgfooaa
open Go.ChangeShapes Go.WideShapes Go.ChangeAt Go.RowKit

set_option maxHeartbeats 1000000 in
theorem prefix_large (a : Option Addr) (z : List Ev) (c : Nat) (n : Int) (w : World) (h : EvS w a z) (hl : 80 < z.length) :
    Calls Try.prog 3 #[.slice a z.length c, .int .i64 n] w fun e w' => e = .returned (.bool true) ∧ Below w.heap.size w w' := by
  have hbig := h.big
  have HE := Lib.hid (played_large.2 hl)
  have HA := Lib.hid (played_at (.inr (played_large.2 hl)))
  go_enter Try.func3, Try.ntmps3
  go_wp2_with fail
  refine (traced_any _).mono ?_
  rintro r w1 ⟨rfl, hb⟩
  go_wp2_with fail
  refine (check_any z a c _ (h.below hb)).mono ?_
  rintro r w2 ⟨rfl, hk⟩
  rw [HE.out, HA.out]
  go_wp2
  go_ret
  exact ⟨rfl, hb.trans (hk.mono hb.size)⟩

set_option maxHeartbeats 1000000 in
theorem prefix_err (a : Option Addr) (z : List Ev) (c : Nat) (n : Int) (w : World) (h : EvS w a z) (hc : z.length ≤ c) (hcc : (played z).2.2 ≠ 0) (h2 : (played z).2.2 ≠ 2) :
    Calls Try.prog 3 #[.slice a z.length c, .int .i64 n] w fun e w' => e = .returned (.bool true) ∧ Below w.heap.size w w' := by
  have hbig := h.big
  obtain ⟨h3, h4, h5⟩ := played_err hcc h2
  have e1 : ((played z).2.2 == 2) = false := by simpa using h2
  have e2 : ((played z).2.2 != 0) = true := by simpa using hcc
  obtain ⟨b, o, rfl⟩ : ∃ b o, a = some ⟨b, o, none⟩ := by
    rcases h.ok with h0 | ⟨b, o, ha, _⟩
    · simp [h0] at h3
    · exact ⟨b, o, ha⟩
  have t1 : (z.take (played z).2.1).length = (played z).2.1 := by simp; omega
  have t2 : (z.take ((played z).2.1 + 1)).length = (played z).2.1 + 1 := by simp; omega
  clear hcc h2
  have S1 := h.take (played z).2.1
  have S2 := h.take ((played z).2.1 + 1)
  have H4 := Lib.hid h4
  have H5 := Lib.hid h5
  have T1 := Lib.hid t1
  have T2 := Lib.hid t2
  clear h4 h5 t1 t2
  go_enter Try.func3, Try.ntmps3
  go_wp2_with fail
  refine (traced_any _).mono ?_
  rintro r w1 ⟨rfl, hb⟩
  go_wp2_with fail
  refine (check_any z _ c _ (h.below hb)).mono ?_
  rintro r w2 ⟨rfl, hk⟩
  replace hb := hb.trans (hk.mono hb.size)
  clear hk
  generalize (played z).2.1 = j at *
  go_wp2_with fail
  refine (may_n _ j T1.out _ _ _ (S1.below hb)).mono ?_
  rintro r w3 ⟨rfl, hk⟩
  rw [H4.out]
  replace hb := hb.trans (hk.mono hb.size)
  clear hk
  go_wp2_with fail
  refine (may_n _ (j + 1) T2.out _ _ _ (S2.below hb)).mono ?_
  rintro r w4 ⟨rfl, hk⟩
  rw [H5.out]
  replace hb := hb.trans (hk.mono hb.size)
  clear hk
  go_wp2
  go_ret
  exact ⟨rfl, hb⟩

set_option maxHeartbeats 1000000 in
theorem prefix_ok (a : Option Addr) (z : List Ev) (c : Nat) (n : Int) (w : World) (h : EvS w a z) (hc : z.length ≤ c) (hcc : (played z).2.2 = 0) :
    Calls Try.prog 3 #[.slice a z.length c, .int .i64 n] w fun e w' => e = .returned (.bool true) ∧ Below w.heap.size w w' := by
  have hbig := h.big
  have HA := Lib.hid (played_at (.inl hcc))
  have HE := Lib.hid hcc
  have q0 := Int.emod_nonneg n (show (z.length : Int) + 1 ≠ 0 by omega)
  have q1 := Int.emod_lt_of_pos n (show 0 < (z.length : Int) + 1 by omega)
  obtain ⟨k, hk⟩ := Int.eq_ofNat_of_zero_le q0
  have hkz : k ≤ z.length := by omega
  have hM := Lib.hid (mayB_take k (by simp [mayB, hcc] : mayB z = true))
  have S1 := h.take k
  have T1 := Lib.hid (show (z.take k).length = k by simp; omega)
  have HK := Lib.hid hk
  clear hk q0 q1 hcc
  go_enter Try.func3, Try.ntmps3
  go_wp2_with fail
  refine (traced_any _).mono ?_
  rintro r w1 ⟨rfl, hb⟩
  go_wp2_with fail
  refine (check_any z _ c _ (h.below hb)).mono ?_
  rintro r w2 ⟨rfl, hk⟩
  rw [HE.out, HA.out]
  replace hb := hb.trans (hk.mono hb.size)
  clear hk
  go_wp2_with fail
  refine (rest_any n _ _ (by omega) (by omega)).mono ?_
  rintro r w3 ⟨rfl, rfl⟩
  rw [HK.out]
  go_wp2_with fail
  refine (may_n _ k T1.out _ _ _ (S1.below hb)).mono ?_
  rintro r w4 ⟨rfl, hk⟩
  rw [hM.out]
  replace hb := hb.trans (hk.mono hb.size)
  clear hk
  go_wp2
  go_ret
  exact ⟨rfl, hb⟩
theorem tracePrefix_walk (a : Option Addr) (z : List Ev) (c : Nat) (n : Int) (w : World) (h : EvS w a z ∧ z.length ≤ c ∧ z.length * 24 ≤ 140737488351232 ∧ ∀ e ∈ z, I64 e.k ∧ I64 e.t ∧ I64 e.o) (_ : I64 n) :
    Calls Try.prog 3 #[.slice a z.length c, .int .i64 n] w fun e w' => e = .returned (.bool true) ∧ Below w.heap.size w w' := by
  obtain ⟨h1, h2, h3, h4⟩ := h
  by_cases e2 : (played z).2.2 = 2
  · exact prefix_large a z c n w h1 (played_large.1 e2)
  · by_cases e0 : (played z).2.2 = 0
    · exact prefix_ok a z c n w h1 h2 e0
    · exact prefix_err a z c n w h1 h2 e0 e2
/-! The frame of the law TracePrefix, by program. -/
set_option maxRecDepth 100000 in
theorem tracePrefix_lifted (os : Os) (started : os.Started) (H : Type) (enc : TypeId × Value → H) :
    ReturnsInHanded {} Try.checked os 3 .any (Rows.tracePrefixSpec.pre6 enc Try.prog Try.f3 Rows.tracePrefixRow.domain false) (Rows.tracePrefixSpec.post enc Try.prog Try.f3 false true false false) := by
  refine returnsInHanded_of_change_shaped (C := Try.checked) frame_own started (by kernel_rfl) Try.func3
    (ChangeSpec.witness6 (enc := enc) (C := Try.checked) false ⟨#[], #[.slice none 0 0, .int .i64 0], []⟩ 8 (by kernel_rfl) (by kernel_rfl) (by kernel_rfl) (by kernel_rfl)) ?_
  intro W base args ds gs before hval0 hW hcnd hsz hshaped hroom
  clear hcnd hshaped
  have hval : ∀ (j : Nat) t v, Try.f3.params[j]? = some t → args[j]? = some v → Value.okWide Try.prog W .any base t v := hval0
  have hW' := hW
  obtain ⟨p, q, hA0, hV, rfl, hfz, hnd⟩ := hW
  have hA : DataW.TrodAll enc Try.prog W 0 (fun _ => true) true Try.f3.params.toList args.toList ds p := hA0
  rw [Try.params3] at hA hval
  obtain ⟨v0, vs0, d0, ds0, p0, q0, hargs, rfl, rfl, h0, r0⟩ := trodAll_cons hA
  obtain ⟨v1, vs1, d1, ds1, p1, q1, rfl, rfl, rfl, h1, r1⟩ := trodAll_cons r0
  obtain ⟨rfl, rfl, rfl⟩ := trodAll_nil r1
  obtain rfl : args = #[v0, v1] := by cases args; simp_all
  obtain ⟨rfl, rfl⟩ := trodVars_none hV
  have k0 := h0
  have lt0 : ∀ x ∈ p0, x.block < W.heap.size := by obtain ⟨m, hm⟩ := k0; exact DataW.trod_lt m _ _ _ hm
  obtain ⟨a0, z0, c0, rfl, w0⟩ := open_evs (hval 0 22 v0 rfl rfl) h0 (fun els sp hd => sized_slice hsz (j := 0) rfl (by rw [hd]; rfl) Try.underlying22)
  have k1 := h1
  have lt1 : ∀ x ∈ p1, x.block < W.heap.size := by obtain ⟨m, hm⟩ := k1; exact DataW.trod_lt m _ _ _ hm
  obtain ⟨a1, rfl, rfl, rfl, w1⟩ := open_int Try.underlying3 (hval 1 3 v1 rfl rfl) h1
  clear hA0 hval0
  refine (tracePrefix_walk a0 z0 c0 a1 W w0 (wf_i64 w1)).mono fun e W' ⟨he, bel⟩ => ?_
  subst he
  exact ⟨_, rfl, _, _, _, [], _, [], hW', trodAll_mk1 (shut_bool Try.underlying4 _), (trodAll_cons_mk (Below.trod frame_laid (by kernel_rfl) (of_decide_eq_true (by kernel_rfl)) k0 bel lt0) (trodAll_cons_mk (Below.trod frame_laid (by kernel_rfl) (of_decide_eq_true (by kernel_rfl)) k1 bel lt1) trodAll_mk0)), rfl, bel.frame _, fun h => by cases h⟩

theorem tracePrefix_over : Rows.tracePrefixRow.holds Try.pinned (OpenSpec.ofChange Rows.tracePrefixSpec) :=
  OpenClaim.holds_of_wide 3 Try.f3 rfl rfl rfl rfl rfl rfl rfl ⟨rfl, rfl, rfl, rfl, rfl⟩ rfl rfl rfl rfl rfl (by kernel_rfl) Try.func3 (by kernel_rfl)
    (of_decide_eq_true (by kernel_rfl)) (by unfold Func.isWrapper; first | (rw [if_pos (by decide +kernel)]; kernel_rfl) | (rw [if_neg (by decide +kernel)]; exact ⟨rfl, rfl⟩))
    (fun os started H enc _ => tracePrefix_lifted os started H enc)

/-- The statement. -/
theorem tracePrefix_holds : Rows.TracePrefixSaid := tracePrefix_over

end Go.Proofs.Ytkkfomggfgfooaa
