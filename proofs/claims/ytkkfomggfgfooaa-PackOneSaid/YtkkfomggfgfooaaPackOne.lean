/- PackOne: two traces have the same encoding exactly if they are equal: for every two traces. -/
import Derived.Test.YtkkfomggfgfooaaRows
import Derived.Test.YtkkfomggfgfooaaPkC
import Derived.Test.YtkkfomggfgfooaaOpenE
namespace Go.Proofs.Ytkkfomggfgfooaa
open Go.ChangeShapes Go.WideShapes Go.ChangeAt Go.RowKit

set_option maxHeartbeats 1000000 in
theorem one_walk (a a2 : Option Addr) (z y : List Ev) (c c2 : Nat) (w : World) (h : EvS w a z) (h2 : EvS w a2 y) :
    Calls Try.prog 8 #[.slice a z.length c, .slice a2 y.length c2] w fun e w' => e = .returned (.bool true) ∧ Below w.heap.size w w' := by
  go_enter Try.func8, Try.ntmps8
  go_wp2_with fail
  refine (packed_any _).mono ?_
  rintro r w1 ⟨rfl, hb⟩
  by_cases e1 : (played z).2.2 = 0
  · go_wp2_with fail
    refine (pack_ok z a c _ (h.below hb) e1).mono ?_
    rintro r w2 ⟨rfl, hk⟩
    replace hb := hb.trans (hk.mono hb.size)
    clear hk
    by_cases e2 : (played y).2.2 = 0
    · go_wp2_with fail
      refine (pack_ok y a2 c2 _ (h2.below hb) e2).mono ?_
      rintro r w3 ⟨rfl, hk⟩
      replace hb := hb.trans (hk.mono hb.size)
      clear hk
      obtain ⟨l80, lv⟩ := played_evs e1
      obtain ⟨m80, mv⟩ := played_evs e2
      have hst : eqB z y = ((strOfNums (packL z)).toList == (strOfNums (packL y)).toList) := by
        rw [Bool.eq_iff_iff, eqB_iff, beq_iff_eq]
        constructor
        · rintro rfl; rfl
        · intro hh
          refine packL_inj lv mv (str_inj (pack_rng lv l80) (pack_rng mv m80) ?_)
          have hd := congrArg (fun l : List UInt8 => (⟨l.toArray⟩ : ByteArray)) hh
          exact ByteArray.ext (by simpa [ByteArray.toList_eq] using hd)
      go_wp2_with fail
      refine (eqEv_any z y a a2 c c2 _ (h.below hb) (h2.below hb)).mono ?_
      rintro r w4 ⟨rfl, hk⟩
      rw [hst]
      go_wp2
      go_ret
      exact ⟨rfl, hb.trans (hk.mono hb.size)⟩
    · have e2' : ((played y).2.2 != 0) = true := by simpa using e2
      go_wp2_with fail
      refine (pack_err y a2 c2 _ (h2.below hb) e2).mono ?_
      rintro r w3 ⟨rfl, hk⟩
      go_wp2
      go_ret
      exact ⟨rfl, hb.trans (hk.mono hb.size)⟩
  · have e1' : ((played z).2.2 != 0) = true := by simpa using e1
    go_wp2_with fail
    refine (pack_err z a c _ (h.below hb) e1).mono ?_
    rintro r w2 ⟨rfl, hk⟩
    replace hb := hb.trans (hk.mono hb.size)
    clear hk
    by_cases e2 : (played y).2.2 = 0
    · go_wp2_with fail
      refine (pack_ok y a2 c2 _ (h2.below hb) e2).mono ?_
      rintro r w3 ⟨rfl, hk⟩
      go_wp2
      go_ret
      exact ⟨rfl, hb.trans (hk.mono hb.size)⟩
    · go_wp2_with fail
      refine (pack_err y a2 c2 _ (h2.below hb) e2).mono ?_
      rintro r w3 ⟨rfl, hk⟩
      go_wp2
      go_ret
      exact ⟨rfl, hb.trans (hk.mono hb.size)⟩
theorem packOne_walk (a : Option Addr) (z : List Ev) (c : Nat) (a2 : Option Addr) (y : List Ev) (c2 : Nat) (w : World) (h : EvS w a z ∧ z.length ≤ c ∧ z.length * 24 ≤ 140737488351232 ∧ ∀ e ∈ z, I64 e.k ∧ I64 e.t ∧ I64 e.o) (h2 : EvS w a2 y ∧ y.length ≤ c2 ∧ y.length * 24 ≤ 140737488351232 ∧ ∀ e ∈ y, I64 e.k ∧ I64 e.t ∧ I64 e.o) :
    Calls Try.prog 8 #[.slice a z.length c, .slice a2 y.length c2] w fun e w' => e = .returned (.bool true) ∧ Below w.heap.size w w' :=
  one_walk a a2 z y c c2 w h.1 h2.1
/-! The frame of the law PackOne, by program. -/
set_option maxRecDepth 100000 in
theorem packOne_lifted (os : Os) (started : os.Started) (H : Type) (enc : TypeId × Value → H) :
    ReturnsInHanded {} Try.checked os 8 .any (Rows.packOneSpec.pre6 enc Try.prog Try.f8 Rows.packOneRow.domain false) (Rows.packOneSpec.post enc Try.prog Try.f8 false true false false) := by
  refine returnsInHanded_of_change_shaped (C := Try.checked) frame_own started (by kernel_rfl) Try.func8
    (ChangeSpec.witness6 (enc := enc) (C := Try.checked) false ⟨#[], #[.slice none 0 0, .slice none 0 0], []⟩ 8 (by kernel_rfl) (by kernel_rfl) (by kernel_rfl) (by kernel_rfl)) ?_
  intro W base args ds gs before hval0 hW hcnd hsz hshaped hroom
  clear hcnd hshaped
  have hval : ∀ (j : Nat) t v, Try.f8.params[j]? = some t → args[j]? = some v → Value.okWide Try.prog W .any base t v := hval0
  have hW' := hW
  obtain ⟨p, q, hA0, hV, rfl, hfz, hnd⟩ := hW
  have hA : DataW.TrodAll enc Try.prog W 0 (fun _ => true) true Try.f8.params.toList args.toList ds p := hA0
  rw [Try.params8] at hA hval
  obtain ⟨v0, vs0, d0, ds0, p0, q0, hargs, rfl, rfl, h0, r0⟩ := trodAll_cons hA
  obtain ⟨v1, vs1, d1, ds1, p1, q1, rfl, rfl, rfl, h1, r1⟩ := trodAll_cons r0
  obtain ⟨rfl, rfl, rfl⟩ := trodAll_nil r1
  obtain rfl : args = #[v0, v1] := by cases args; simp_all
  obtain ⟨rfl, rfl⟩ := trodVars_none hV
  have k0 := h0
  have lt0 : ∀ x ∈ p0, x.block < W.heap.size := by obtain ⟨m, hm⟩ := k0; exact DataW.trod_lt m _ _ _ hm
  obtain ⟨a0, z0, c0, rfl, w0⟩ := open_evs (hval 0 22 v0 rfl rfl) h0 (fun els sp hd => sized_slice hsz (j := 0) rfl (by rw [hd]; rfl) Try.underlying22)
  have k1 := h1
  have lt1 : ∀ x ∈ p1, x.block < W.heap.size := by obtain ⟨m, hm⟩ := k1; exact DataW.trod_lt m _ _ _ hm
  obtain ⟨a1, z1, c1, rfl, w1⟩ := open_evs (hval 1 22 v1 rfl rfl) h1 (fun els sp hd => sized_slice hsz (j := 1) rfl (by rw [hd]; rfl) Try.underlying22)
  clear hA0 hval0
  refine (packOne_walk a0 z0 c0 a1 z1 c1 W w0 w1).mono fun e W' ⟨he, bel⟩ => ?_
  subst he
  exact ⟨_, rfl, _, _, _, [], _, [], hW', trodAll_mk1 (shut_bool Try.underlying4 _), (trodAll_cons_mk (Below.trod frame_laid (by kernel_rfl) (of_decide_eq_true (by kernel_rfl)) k0 bel lt0) (trodAll_cons_mk (Below.trod frame_laid (by kernel_rfl) (of_decide_eq_true (by kernel_rfl)) k1 bel lt1) trodAll_mk0)), rfl, bel.frame _, fun h => by cases h⟩

theorem packOne_over : Rows.packOneRow.holds Try.pinned (OpenSpec.ofChange Rows.packOneSpec) :=
  OpenClaim.holds_of_wide 8 Try.f8 rfl rfl rfl rfl rfl rfl rfl ⟨rfl, rfl, rfl, rfl, rfl⟩ rfl rfl rfl rfl rfl (by kernel_rfl) Try.func8 (by kernel_rfl)
    (of_decide_eq_true (by kernel_rfl)) (by unfold Func.isWrapper; first | (rw [if_pos (by decide +kernel)]; kernel_rfl) | (rw [if_neg (by decide +kernel)]; exact ⟨rfl, rfl⟩))
    (fun os started H enc _ => packOne_lifted os started H enc)

/-- The statement. -/
theorem packOne_holds : Rows.PackOneSaid := packOne_over

end Go.Proofs.Ytkkfomggfgfooaa
