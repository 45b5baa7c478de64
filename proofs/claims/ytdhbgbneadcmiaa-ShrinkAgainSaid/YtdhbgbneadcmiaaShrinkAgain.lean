/- ShrinkAgain: reducing a reduced trace changes nothing: for every trace. -/
import Derived.Test.YtdhbgbneadcmiaaRows
import Derived.Test.YtdhbgbneadcmiaaShd
import Derived.Test.YtdhbgbneadcmiaaEqE
import Derived.Test.YtdhbgbneadcmiaaOpenE
namespace Go.Proofs.Ytdhbgbneadcmiaa
open Go.ChangeShapes Go.WideShapes Go.ChangeAt Go.RowKit

set_option maxRecDepth 100000 in
theorem shrinkAgain_walk (a : Option Addr) (z : List Ev) (c : Nat) (w : World) (hf : EvS w a z ∧ z.length ≤ c ∧ z.length * 24 ≤ 140737488351232 ∧ ∀ e ∈ z, I64 e.k ∧ I64 e.t ∧ I64 e.o) :
    Calls Try.prog 6 #[.slice a z.length c] w fun e w' => e = .returned (.bool true) ∧ Below w.heap.size w w' := by
  have h := hf.1
  clear hf
  by_cases hr : Racy z
  · have hm := (mini_is z).racy hr
    have ha := mini_again z
    have HC := Lib.hid fun W (hW : EvS W a z) => min_ok z z.length rfl a c W hW hr
    have hc2 := fun (a : Option Addr) (c : Nat) (W : World) (hW : EvS W a (mini z)) => min_ok (mini z) _ rfl a c W hW hm
    rw [ha] at hc2
    have HC2 := Lib.hid hc2
    have he := fun (a a' : Option Addr) (c c' : Nat) (W : World) (h1 : EvS W a (mini z)) (h2 : EvS W a' (mini z)) => eqEv_any (mini z) (mini z) a a' c c' W h1 h2
    rw [show eqB (mini z) (mini z) = true by simp [eqB]] at he
    have HE := Lib.hid he
    clear hm ha hc2 he hr
    generalize mini z = M at *
    go_enter Try.func6, Try.ntmps6
    go_wp2_with fail
    refine (shrunk_any _).mono ?_
    rintro r w1 ⟨rfl, hb⟩
    go_wp2_with fail
    refine (HC.out _ (h.below hb)).mono ?_
    rintro r w2 ⟨a2, c2, rfl, hS, hk⟩
    replace hb := hb.trans (hk.mono hb.size)
    clear hk
    go_wp2_with fail
    refine (HC2.out _ _ _ hS).mono ?_
    rintro r w3 ⟨a3, c3, rfl, hS3, hk⟩
    replace hb := hb.trans (hk.mono hb.size)
    replace hS := hS.below hk
    clear hk
    go_wp2_with fail
    refine (HE.out _ _ _ _ _ hS hS3).mono ?_
    rintro r w4 ⟨rfl, hk⟩
    replace hb := hb.trans (hk.mono hb.size)
    go_wp2
    go_ret
    exact ⟨rfl, hb⟩
  · have HC := Lib.hid fun W (hW : EvS W a z) => min_no z z.length rfl a c W hW hr
    have hq : ((if (played z).2.2 = 0 then 7 else (played z).2.2) != 0) = true := by
      split
      · rfl
      · simpa using (by assumption)
    clear hr
    generalize (if (played z).2.2 = 0 then 7 else (played z).2.2) = E at *
    go_enter Try.func6, Try.ntmps6
    go_wp2_with fail
    refine (shrunk_any _).mono ?_
    rintro r w1 ⟨rfl, hb⟩
    go_wp2_with fail
    refine (HC.out _ (h.below hb)).mono ?_
    rintro r w2 ⟨rfl, hk⟩
    replace hb := hb.trans (hk.mono hb.size)
    go_wp2
    go_ret
    exact ⟨rfl, hb⟩
/-! The frame of the law ShrinkAgain, by program. -/
set_option maxRecDepth 100000 in
theorem shrinkAgain_lifted (os : Os) (started : os.Started) (H : Type) (enc : TypeId × Value → H) :
    ReturnsInHanded {} Try.checked os 6 .any (Rows.shrinkAgainSpec.pre6 enc Try.prog Try.f6 Rows.shrinkAgainRow.domain false) (Rows.shrinkAgainSpec.post enc Try.prog Try.f6 false true false false) := by
  refine returnsInHanded_of_change_shaped (C := Try.checked) frame_own started (by kernel_rfl) Try.func6
    (ChangeSpec.witness6 (enc := enc) (C := Try.checked) false ⟨#[], #[.slice none 0 0], []⟩ 8 (by kernel_rfl) (by kernel_rfl) (by kernel_rfl) (by kernel_rfl)) ?_
  intro W base args ds gs before hval0 hW hcnd hsz hshaped hroom
  clear hcnd hshaped
  have hval : ∀ (j : Nat) t v, Try.f6.params[j]? = some t → args[j]? = some v → Value.okWide Try.prog W .any base t v := hval0
  have hW' := hW
  obtain ⟨p, q, hA0, hV, rfl, hfz, hnd⟩ := hW
  have hA : DataW.TrodAll enc Try.prog W 0 (fun _ => true) true Try.f6.params.toList args.toList ds p := hA0
  rw [Try.params6] at hA hval
  obtain ⟨v0, vs0, d0, ds0, p0, q0, hargs, rfl, rfl, h0, r0⟩ := trodAll_cons hA
  obtain ⟨rfl, rfl, rfl⟩ := trodAll_nil r0
  obtain rfl : args = #[v0] := by cases args; simp_all
  obtain ⟨rfl, rfl⟩ := trodVars_none hV
  have k0 := h0
  have lt0 : ∀ x ∈ p0, x.block < W.heap.size := by obtain ⟨m, hm⟩ := k0; exact DataW.trod_lt m _ _ _ hm
  obtain ⟨a0, z0, c0, rfl, w0⟩ := open_evs (hval 0 22 v0 rfl rfl) h0 (fun els sp hd => sized_slice hsz (j := 0) rfl (by rw [hd]; rfl) Try.underlying22)
  clear hA0 hval0
  refine (shrinkAgain_walk a0 z0 c0 W w0).mono fun e W' ⟨he, bel⟩ => ?_
  subst he
  exact ⟨_, rfl, _, _, _, [], _, [], hW', trodAll_mk1 (shut_bool Try.underlying4 _), (trodAll_cons_mk (Below.trod frame_laid (by kernel_rfl) (of_decide_eq_true (by kernel_rfl)) k0 bel lt0) trodAll_mk0), rfl, bel.frame _, fun h => by cases h⟩

theorem shrinkAgain_over : Rows.shrinkAgainRow.holds Try.pinned (OpenSpec.ofChange Rows.shrinkAgainSpec) :=
  OpenClaim.holds_of_wide 6 Try.f6 rfl rfl rfl rfl rfl rfl rfl ⟨rfl, rfl, rfl, rfl, rfl⟩ rfl rfl rfl rfl rfl (by kernel_rfl) Try.func6 (by kernel_rfl)
    (of_decide_eq_true (by kernel_rfl)) (by unfold Func.isWrapper; first | (rw [if_pos (by decide +kernel)]; kernel_rfl) | (rw [if_neg (by decide +kernel)]; exact ⟨rfl, rfl⟩))
    (fun os started H enc _ => shrinkAgain_lifted os started H enc)

/-- The statement. -/
theorem shrinkAgain_holds : Rows.ShrinkAgainSaid := shrinkAgain_over

end Go.Proofs.Ytdhbgbneadcmiaa
