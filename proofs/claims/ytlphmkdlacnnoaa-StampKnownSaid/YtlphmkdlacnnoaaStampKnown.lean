/- StampKnown: what a thread knows is the clock of its last event: for every trace and every number. -/
import Derived.Test.YtlphmkdlacnnoaaRows
import Derived.Test.YtlphmkdlacnnoaaStmK
import Derived.Test.YtlphmkdlacnnoaaRest
import Derived.Test.YtlphmkdlacnnoaaOpenE
namespace Go.Proofs.Ytlphmkdlacnnoaa
open Go.ChangeShapes Go.WideShapes Go.ChangeAt Go.RowKit

set_option maxRecDepth 100000 in
set_option maxHeartbeats 8000000 in
theorem stampKnown_no (a : Option Addr) (z : List Ev) (c : Nat) (t : Int) (w : World) (h : EvS w a z) (he : (played z).2.2 ≠ 0) :
    Calls Try.prog 12 #[.slice a z.length c, .int .i64 t] w fun e w' => e = .returned (.bool true) ∧ Below w.heap.size w w' := by
  have e2 : ((played z).2.2 != 0) = true := by simpa using he
  have e3 : ((played z).2.2 == (played z).2.2) = true := by simp
  go_enter Try.func12, Try.ntmps12
  go_wp2_with fail
  refine (stamped_any _).mono ?_
  rintro r w1 ⟨rfl, hb⟩
  go_wp2_with fail
  refine (stamps_err z a c _ (h.below hb) he).mono ?_
  rintro r w2 ⟨rfl, hk⟩
  replace hb := hb.trans (hk.mono hb.size)
  clear hk
  go_wp2_with fail
  refine (rest_any t 6 _ (by omega) (by omega)).mono ?_
  rintro r w3 ⟨rfl, hw⟩
  rw [hw]
  clear hw
  go_wp2_with fail
  refine (knows_err z (t % 6) a c _ (h.below hb) he).mono ?_
  rintro r w3 ⟨rfl, hk⟩
  replace hb := hb.trans (hk.mono hb.size)
  have hb2 := hb.alloc hb.size (.cells (clkC fun _ => 0) 44)
  go_wp2
  go_ret
  exact ⟨rfl, hb2⟩

set_option maxRecDepth 100000 in
set_option maxHeartbeats 8000000 in
theorem stampKnown_ok (a : Option Addr) (z : List Ev) (c : Nat) (t : Int) (w : World) (h : EvS w a z) (he : (played z).2.2 = 0) :
    Calls Try.prog 12 #[.slice a z.length c, .int .i64 t] w fun e w' => e = .returned (.bool true) ∧ Below w.heap.size w w' := by
  have hl80 := (played_evs he).1
  obtain ⟨τ, hτ, h6⟩ : ∃ k : Nat, t % 6 = k ∧ k < 6 := ⟨(t % 6).toNat, by omega, by omega⟩
  have HE := Lib.hid he
  have HT := Lib.hid hτ
  clear he hτ
  go_enter Try.func12, Try.ntmps12
  go_wp2_with fail
  refine (stamped_any _).mono ?_
  rintro r w1 ⟨rfl, hb⟩
  go_wp2_with fail
  refine (stamps_ok z a c _ (h.below hb) HE.out).mono ?_
  rintro r w2 ⟨v, rfl, hown, hk⟩
  have hex : ∃ a2 c2, v = .slice a2 z.length c2 ∧ CkS w2 a2 (stampL z z.length) := by
    obtain ⟨a, c, h1, h2, _⟩ := ckS_own hown
    rw [stampL_length] at h1
    exact ⟨a, c, h1, h2⟩
  obtain ⟨a2, c2, rfl, hC⟩ := hex
  have hb2 := hb.trans (hk.mono hb.size)
  clear hk hb hown
  go_wp2_with fail
  refine (rest_any t 6 _ (by omega) (by omega)).mono ?_
  rintro r w3 ⟨rfl, hw⟩
  rw [hw]
  clear hw
  rw [HT.out]
  go_wp2_with fail
  refine (knows_ok z τ h6 a c _ (h.below hb2) HE.out).mono ?_
  rintro r w3 ⟨rfl, hk⟩
  replace hC := hC.below hk
  replace hb2 := hb2.trans (hk.mono hb2.size)
  replace h := h.below hb2
  clear hk
  have hN := Has.new w3 (clkC (knL z τ z.length)) 44
  have hb3 := (Below.refl w3.heap.size w3).alloc (Nat.le_refl _) (.cells (clkC (knL z τ z.length)) 44)
  generalize hq : knL z τ z.length = q at *
  have HQ := Lib.hid hq
  clear hq
  go_wp2
  replace h := h.below hb3
  replace hC := hC.below hb3
  replace hb2 := hb2.trans (hb3.mono hb2.size)
  clear hb3
  generalize hW : w3.alloc (.cells (clkC q) 44) = w4 at *
  clear hW
  go_loopw [9] (fun i wr => ∃ n : Nat, n ≤ z.length ∧ i = .int .i64 ((n : Int) - 1) ∧ Hid (knL z τ z.length = knL z τ n) ∧ wr = w4) (fun i _ => (intOf i + 1).toNat)
  case atStart => exact ⟨z.length, Nat.le_refl _, rfl, Lib.hid rfl, rfl⟩
  case round =>
    obtain ⟨n, hn, rfl, HK, rfl⟩ := hrel
    obtain ⟨e0, e1, e3, e4, e5, e6⟩ := hN.clk
    cases n with
    | zero =>
      have hz : q = fun _ => 0 := by rw [← HQ.out, HK.out]; rfl
      subst hz
      have hes := eql_self (fun _ => 0)
      clear HK
      go_wp2
      go_ret
      exact ⟨rfl, hb2⟩
    | succ m =>
      have hml : m < z.length := by omega
      obtain ⟨b', o', rfl, d0, d1, d2⟩ := h.at hml
      have hx : evAt z m = z[m] := by simp [evAt, hml]
      rw [← hx] at d0 d1 d2
      clear hx
      obtain ⟨g, rfl⟩ := hC.some (show 0 < z.length by omega)
      have q0 : (0 : Int) ≤ m := by omega
      have q1 : (m : Int) < z.length := by omega
      have eq1 : (((m + 1 : Nat) : Int) - 1) = (m : Int) := by omega
      rw [eq1]
      clear eq1
      by_cases hm : (evAt z m).t = τ
      · have hmb : ((evAt z m).t == (τ : Int)) = true := by simpa using hm
        have hz : q = stampOf z m := by rw [← HQ.out, HK.out]; simp [knL, hm]
        subst hz
        have hes := eql_self (stampOf z m)
        obtain ⟨x0, x1, x2, x3, x4, x5⟩ := hC.sixAt hml
        clear HK hm
        go_wp2
        go_quiet (fail)
        go_wp2
        go_ret
        exact ⟨rfl, below_drewN hb2 _⟩
      · have hmb : ((evAt z m).t == (τ : Int)) = false := by simpa using hm
        have HN : Hid (knL z τ z.length = knL z τ m) := Lib.hid (by rw [HK.out]; simp [knL, hm])
        clear HK hm
        go_wp2
        go_roundw
        case rel => exact ⟨m, by omega, by go_num, HN, trivial⟩
        case measure => (simp [intOf]; try omega)

theorem stampKnown_walk (a : Option Addr) (z : List Ev) (c : Nat) (t : Int) (w : World) (hf : EvS w a z ∧ z.length ≤ c ∧ z.length * 24 ≤ 140737488351232 ∧ ∀ e ∈ z, I64 e.k ∧ I64 e.t ∧ I64 e.o) (_ : I64 t) :
    Calls Try.prog 12 #[.slice a z.length c, .int .i64 t] w fun e w' => e = .returned (.bool true) ∧ Below w.heap.size w w' := by
  by_cases hm : (played z).2.2 = 0
  · exact stampKnown_ok a z c t w hf.1 hm
  · exact stampKnown_no a z c t w hf.1 hm
/-! The frame of the law StampKnown, by program. -/
set_option maxRecDepth 100000 in
theorem stampKnown_lifted (os : Os) (started : os.Started) (H : Type) (enc : TypeId × Value → H) :
    ReturnsInHanded {} Try.checked os 12 .any (Rows.stampKnownSpec.pre6 enc Try.prog Try.f12 Rows.stampKnownRow.domain false) (Rows.stampKnownSpec.post enc Try.prog Try.f12 false true false false) := by
  refine returnsInHanded_of_change_shaped (C := Try.checked) frame_own started (by kernel_rfl) Try.func12
    (ChangeSpec.witness6 (enc := enc) (C := Try.checked) false ⟨#[], #[.slice none 0 0, .int .i64 0], []⟩ 8 (by kernel_rfl) (by kernel_rfl) (by kernel_rfl) (by kernel_rfl)) ?_
  intro W base args ds gs before hval0 hW hcnd hsz hshaped hroom
  clear hcnd hshaped
  have hval : ∀ (j : Nat) t v, Try.f12.params[j]? = some t → args[j]? = some v → Value.okWide Try.prog W .any base t v := hval0
  have hW' := hW
  obtain ⟨p, q, hA0, hV, rfl, hfz, hnd⟩ := hW
  have hA : DataW.TrodAll enc Try.prog W 0 (fun _ => true) true Try.f12.params.toList args.toList ds p := hA0
  rw [Try.params12] at hA hval
  obtain ⟨v0, vs0, d0, ds0, p0, q0, hargs, rfl, rfl, h0, r0⟩ := trodAll_cons hA
  obtain ⟨v1, vs1, d1, ds1, p1, q1, rfl, rfl, rfl, h1, r1⟩ := trodAll_cons r0
  obtain ⟨rfl, rfl, rfl⟩ := trodAll_nil r1
  obtain rfl : args = #[v0, v1] := by cases args; simp_all
  obtain ⟨rfl, rfl⟩ := trodVars_none hV
  have k0 := h0
  have lt0 : ∀ x ∈ p0, x.block < W.heap.size := by obtain ⟨m, hm⟩ := k0; exact DataW.trod_lt m _ _ _ hm
  obtain ⟨a0, z0, c0, rfl, w0⟩ := open_evs (hval 0 22 v0 rfl rfl) h0 (fun els sp hd => sized_slice hsz (j := 0) rfl (by rw [hd]; rfl) Try.underlying22)
  have k1 := h1
  have lt1 : ∀ x ∈ p1, x.block < W.heap.size := by obtain ⟨m, hm⟩ := k1; exact DataW.trod_lt m _ _ _ hm
  obtain ⟨a1, rfl, rfl, rfl, w1⟩ := open_int Try.underlying3 (hval 1 3 v1 rfl rfl) h1
  clear hA0 hval0
  refine (stampKnown_walk a0 z0 c0 a1 W w0 (wf_i64 w1)).mono fun e W' ⟨he, bel⟩ => ?_
  subst he
  exact ⟨_, rfl, _, _, _, [], _, [], hW', trodAll_mk1 (shut_bool Try.underlying4 _), (trodAll_cons_mk (Below.trod frame_laid (by kernel_rfl) (of_decide_eq_true (by kernel_rfl)) k0 bel lt0) (trodAll_cons_mk (Below.trod frame_laid (by kernel_rfl) (of_decide_eq_true (by kernel_rfl)) k1 bel lt1) trodAll_mk0)), rfl, bel.frame _, fun h => by cases h⟩

theorem stampKnown_over : Rows.stampKnownRow.holds Try.pinned (OpenSpec.ofChange Rows.stampKnownSpec) :=
  OpenClaim.holds_of_wide 12 Try.f12 rfl rfl rfl rfl rfl rfl rfl ⟨rfl, rfl, rfl, rfl, rfl⟩ rfl rfl rfl rfl rfl (by kernel_rfl) Try.func12 (by kernel_rfl)
    (of_decide_eq_true (by kernel_rfl)) (by unfold Func.isWrapper; first | (rw [if_pos (by decide +kernel)]; kernel_rfl) | (rw [if_neg (by decide +kernel)]; exact ⟨rfl, rfl⟩))
    (fun os started H enc _ => stampKnown_lifted os started H enc)

/-- The statement. -/
theorem stampKnown_holds : Rows.StampKnownSaid := stampKnown_over

end Go.Proofs.Ytlphmkdlacnnoaa
