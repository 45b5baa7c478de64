/- StampMattern: an event happens before another one exactly if its clock is within the clock of the other one: for every trace. -/
import Derived.Test.YtlphmkdlacnnoaaRows
import Derived.Test.YtlphmkdlacnnoaaStmE
import Derived.Test.YtlphmkdlacnnoaaOpenE
import Derived.Test.YtlphmkdlacnnoaaLawO
namespace Go.Proofs.Ytlphmkdlacnnoaa
open Go.ChangeShapes Go.WideShapes Go.ChangeAt Go.RowKit

theorem stampMattern_no (a : Option Addr) (z : List Ev) (c : Nat) (w : World) (h : EvS w a z) (he : (played z).2.2 ≠ 0) :
    Calls Try.prog 13 #[.slice a z.length c] w fun e w' => e = .returned (.bool true) ∧ Below w.heap.size w w' := by
  have e2 : ((played z).2.2 != 0) = true := by simpa using he
  have hm : mayB z = false := by simpa [mayB] using he
  go_enter Try.func13, Try.ntmps13
  go_wp2_with fail
  refine (stamped_any _).mono ?_
  rintro r w1 ⟨rfl, hb⟩
  go_wp2_with fail
  refine (stamps_err z a c _ (h.below hb) he).mono ?_
  rintro r w2 ⟨rfl, hk⟩
  replace hb := hb.trans (hk.mono hb.size)
  clear hk
  go_wp2_with fail
  refine (may_any z a c _ (h.below hb)).mono ?_
  rintro r w3 ⟨rfl, hk⟩
  rw [hm]
  go_wp2
  go_ret
  exact ⟨rfl, hb.trans (hk.mono hb.size)⟩

set_option maxRecDepth 100000 in
set_option maxHeartbeats 8000000 in
theorem stampMattern_ok (a : Option Addr) (z : List Ev) (c : Nat) (w : World) (h : EvS w a z) (he : (played z).2.2 = 0) :
    Calls Try.prog 13 #[.slice a z.length c] w fun e w' => e = .returned (.bool true) ∧ Below w.heap.size w w' := by
  have hbig := h.big
  have hl80 := (played_evs he).1
  have HE := Lib.hid he
  clear he
  go_enter Try.func13, Try.ntmps13
  go_wp2_with fail
  refine (stamped_any _).mono ?_
  rintro r w1 ⟨rfl, hb⟩
  go_wp2_with fail
  refine (stamps_ok z a c _ (h.below hb) HE.out).mono ?_
  rintro r w2 ⟨v, rfl, hown, hk⟩
  have hex : ∃ a2 c2, v = .slice a2 z.length c2 ∧ CkS w2 a2 (stampL z z.length) := by
    obtain ⟨a, c, h1, h2, _⟩ := ckS_own hown
    rw [stampL_length] at h1
    exact ⟨a, c, h1, h2⟩
  obtain ⟨a2, c2, rfl, hC⟩ := hex
  have hb2 := hb.trans (hk.mono hb.size)
  clear hk hb hown
  go_wp2_with fail
  refine (aheadMap_ok z a c _ (h.below hb2) HE.out).mono ?_
  rintro r w3 ⟨b, n, rfl, hbb, hn, hM, hk⟩
  have hb3 := hb2.trans (hk.mono hb2.size)
  replace hC := hC.below hk
  clear hk hbb hn
  go_wp2
  go_loopw [35] (fun i wr => ∃ k : Nat, k ≤ z.length ∧ i = .int .i64 k ∧ Below w3.heap.size w3 wr) (fun i _ => z.length - (intOf i).toNat)
  case atStart => exact ⟨0, Nat.zero_le _, rfl, Below.refl _ _⟩
  case round =>
    obtain ⟨k, hk, rfl, hb4⟩ := hrel
    obtain ⟨wo, rfl⟩ : ∃ wo : World, wo = wr := ⟨_, rfl⟩
    by_cases hlt : k < z.length
    · go_wp2
      go_loopw [40] (fun i wr => ∃ m : Nat, m ≤ z.length ∧ i = .int .i64 m ∧ Below w3.heap.size w3 wr) (fun i _ => z.length - (intOf i).toNat)
      case atStart => exact ⟨0, Nat.zero_le _, rfl, hb4⟩
      case round =>
        clear hb4
        obtain ⟨m, hm, rfl, hb4⟩ := hrel
        by_cases hml : m < z.length
        · obtain ⟨g, rfl⟩ := hC.some (show 0 < z.length by omega)
          have k0 : (0 : Int) ≤ k := by omega
          have k1 : (k : Int) < z.length := by omega
          have m0 : (0 : Int) ≤ m := by omega
          have m1 : (m : Int) < z.length := by omega
          by_cases hkm : k = m
          · subst hkm
            have hne : ((k : Int) != (k : Int)) = false := by simp
            go_wp2
            go_quiet (fail)
            go_wp2
            go_roundw
            case rel => exact ⟨k + 1, by omega, by go_num, below_drewN hb4 _⟩
            case measure => (simp [intOf]; try omega)
          · have hne : ((k : Int) != (m : Int)) = true := by simp; omega
            have hwi := within_any (stampOf z k) (stampOf z m)
            rw [← mattern HE.out hlt hml hkm] at hwi
            have HWI := Lib.hid hwi
            clear hwi
            go_wp2_with fail
            have hb5 := hb4.drew
            go_region_held3 (fun W => Below w3.heap.size w3 W ∧ SixAt W g (k * 6) (stampOf z k) ∧ SixAt W g (m * 6) (stampOf z m) ∧ (Instr.lookup 25 (.map (some b)) (.agg #[.int .i64 (k : Int), .int .i64 (m : Int)]) false).run Try.prog W = .ok (.bool (R z m k)) W)
              (first | exact ⟨hb5, (hC.below hb5).sixAt hlt, (hC.below hb5).sixAt hml, (hM.below hb5).look1 hl80 k m hlt hml⟩ | exact ⟨hb6, (hC.below hb6).sixAt hlt, (hC.below hb6).sixAt hml, (hM.below hb6).look1 hl80 k m hlt hml⟩)
              (first | (go_at_call 23; refine (HWI.out _).mono ?_; rintro r w6 ⟨rfl, hk6⟩; have hb6 := hb5.trans (hk6.mono hb5.size)))
            all_goals
              rename_i hS
              obtain ⟨hb7, _⟩ := hS
              go_wp2
              go_roundw
              case rel => exact ⟨m + 1, by omega, by go_num, hb7⟩
              case measure => (simp [intOf]; try omega)
        · obtain rfl : m = z.length := by omega
          go_wp2
          go_roundw
          case rel => exact ⟨k + 1, by omega, by go_num, hb4⟩
          case measure => (simp [intOf]; try omega)
    · obtain rfl : k = z.length := by omega
      go_wp2
      go_ret
      exact ⟨rfl, hb3.trans (hb4.mono hb3.size)⟩

theorem stampMattern_walk (a : Option Addr) (z : List Ev) (c : Nat) (w : World) (hf : EvS w a z ∧ z.length ≤ c ∧ z.length * 24 ≤ 140737488351232 ∧ ∀ e ∈ z, I64 e.k ∧ I64 e.t ∧ I64 e.o) :
    Calls Try.prog 13 #[.slice a z.length c] w fun e w' => e = .returned (.bool true) ∧ Below w.heap.size w w' := by
  by_cases hm : (played z).2.2 = 0
  · exact stampMattern_ok a z c w hf.1 hm
  · exact stampMattern_no a z c w hf.1 hm
/-! The frame of the law StampMattern, by program. -/
set_option maxRecDepth 100000 in
theorem stampMattern_lifted (os : Os) (started : os.Started) (H : Type) (enc : TypeId × Value → H) :
    ReturnsInHanded {} Try.checked os 13 .any (Rows.stampMatternSpec.pre6 enc Try.prog Try.f13 Rows.stampMatternRow.domain false) (Rows.stampMatternSpec.post enc Try.prog Try.f13 false true false false) := by
  refine returnsInHanded_of_change_shaped (C := Try.checked) frame_own started (by kernel_rfl) Try.func13
    (ChangeSpec.witness6 (enc := enc) (C := Try.checked) false ⟨#[], #[.slice none 0 0], []⟩ 8 (by kernel_rfl) (by kernel_rfl) (by kernel_rfl) (by kernel_rfl)) ?_
  intro W base args ds gs before hval0 hW hcnd hsz hshaped hroom
  clear hcnd hshaped
  have hval : ∀ (j : Nat) t v, Try.f13.params[j]? = some t → args[j]? = some v → Value.okWide Try.prog W .any base t v := hval0
  have hW' := hW
  obtain ⟨p, q, hA0, hV, rfl, hfz, hnd⟩ := hW
  have hA : DataW.TrodAll enc Try.prog W 0 (fun _ => true) true Try.f13.params.toList args.toList ds p := hA0
  rw [Try.params13] at hA hval
  obtain ⟨v0, vs0, d0, ds0, p0, q0, hargs, rfl, rfl, h0, r0⟩ := trodAll_cons hA
  obtain ⟨rfl, rfl, rfl⟩ := trodAll_nil r0
  obtain rfl : args = #[v0] := by cases args; simp_all
  obtain ⟨rfl, rfl⟩ := trodVars_none hV
  have k0 := h0
  have lt0 : ∀ x ∈ p0, x.block < W.heap.size := by obtain ⟨m, hm⟩ := k0; exact DataW.trod_lt m _ _ _ hm
  obtain ⟨a0, z0, c0, rfl, w0⟩ := open_evs (hval 0 22 v0 rfl rfl) h0 (fun els sp hd => sized_slice hsz (j := 0) rfl (by rw [hd]; rfl) Try.underlying22)
  clear hA0 hval0
  refine (stampMattern_walk a0 z0 c0 W w0).mono fun e W' ⟨he, bel⟩ => ?_
  subst he
  exact ⟨_, rfl, _, _, _, [], _, [], hW', trodAll_mk1 (shut_bool Try.underlying4 _), (trodAll_cons_mk (Below.trod frame_laid (by kernel_rfl) (of_decide_eq_true (by kernel_rfl)) k0 bel lt0) trodAll_mk0), rfl, bel.frame _, fun h => by cases h⟩

theorem stampMattern_over : Rows.stampMatternRow.holds Try.pinned (OpenSpec.ofChange Rows.stampMatternSpec) :=
  OpenClaim.holds_of_wide 13 Try.f13 rfl rfl rfl rfl rfl rfl rfl ⟨rfl, rfl, rfl, rfl, rfl⟩ rfl rfl rfl rfl rfl (by kernel_rfl) Try.func13 (by kernel_rfl)
    (of_decide_eq_true (by kernel_rfl)) (by unfold Func.isWrapper; first | (rw [if_pos (by decide +kernel)]; kernel_rfl) | (rw [if_neg (by decide +kernel)]; exact ⟨rfl, rfl⟩))
    (fun os started H enc _ => stampMattern_lifted os started H enc)

/-- The statement. -/
theorem stampMattern_holds : Rows.StampMatternSaid := stampMattern_over

end Go.Proofs.Ytlphmkdlacnnoaa
