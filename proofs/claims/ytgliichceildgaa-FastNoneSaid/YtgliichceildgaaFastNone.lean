/- FastNone: nothing is flagged exactly if there is no race: for every trace. -/
import Derived.Test.YtgliichceildgaaRows
import Derived.Test.YtgliichceildgaaFrS
import Derived.Test.YtgliichceildgaaRacB
import Derived.Test.YtgliichceildgaaOpenE
namespace Go.Proofs.Ytgliichceildgaa
open Go.ChangeShapes Go.WideShapes Go.ChangeAt Go.RowKit

theorem len_zero {α : Type} (l : List α) : ((l.length : Int) == 0) = decide (l = []) := by
  cases l with
  | nil => rfl
  | cons a l => simp; omega
set_option maxRecDepth 100000 in
theorem fastNone_err (a : Option Addr) (z : List Ev) (c : Nat) (w : World) (h : EvS w a z) (he : (played z).2.2 ≠ 0) :
    Calls Try.prog 14 #[.slice a z.length c] w fun e w' => e = .returned (.bool true) ∧ Below w.heap.size w w' := by
  have hee : ((played z).2.2 == (played z).2.2) = true := by simp
  have HE := Lib.hid he
  go_enter Try.func14, Try.ntmps14
  go_wp2_with fail
  refine (fasted_any _).mono ?_
  rintro r w1 ⟨rfl, hb⟩
  go_wp2_with fail
  refine (fastRun_err z a c _ (h.below hb) HE.out).mono ?_
  rintro r w2 ⟨rfl, hk⟩
  replace hb := hb.trans (hk.mono hb.size)
  clear hk
  go_wp2_with fail
  refine (all_err z a c _ (h.below hb) HE.out).mono ?_
  rintro r w3 ⟨rfl, hk⟩
  replace hb := hb.trans (hk.mono hb.size)
  clear hk he
  go_wp2
  go_ret
  exact ⟨rfl, hb⟩
set_option maxRecDepth 100000 in
theorem fastNone_ok (a : Option Addr) (z : List Ev) (c : Nat) (w : World) (h : EvS w a z) (he : (played z).2.2 = 0) :
    Calls Try.prog 14 #[.slice a z.length c] w fun e w' => e = .returned (.bool true) ∧ Below w.heap.size w w' := by
  have hl80 := (played_evs he).1
  have hfl := qFlags_len z z.length
  have hLl : (raceL z).length ≤ 6400 := by
    have h1 := allR_len z z.length z.length
    have h2 : z.length * z.length ≤ 80 * 80 := Nat.mul_le_mul hl80 hl80
    simp only [raceL]
    omega
  have hq : (((qFlags z z.length).length : Int) == 0) = (((raceL z).length : Int) == 0) := by
    rw [len_zero, len_zero]
    exact decide_eq_decide.2 (fast_none he)
  obtain ⟨q, hq1⟩ : ∃ q, (((raceL z).length : Int) == 0) = q := ⟨_, rfl⟩
  rw [hq1] at hq
  have HE := Lib.hid he
  clear he
  go_enter Try.func14, Try.ntmps14
  go_wp2_with fail
  refine (fasted_any _).mono ?_
  rintro r w1 ⟨rfl, hb⟩
  go_wp2_with fail
  refine (fastRun_ok z a c _ (h.below hb) HE.out).mono ?_
  rintro r w2 ⟨v1, rfl, hown1, hk⟩
  have hex : ∃ a2 c2, v1 = .slice a2 (qFlags z z.length).length c2 := by
    obtain ⟨a, c, h1, _⟩ := evS_own hown1 (by omega)
    exact ⟨a, c, h1⟩
  obtain ⟨a1, c1, rfl⟩ := hex
  replace hb := hb.trans (hk.mono hb.size)
  clear hk hown1
  go_wp2_with fail
  refine (all_ok z a c _ (h.below hb) HE.out).mono ?_
  rintro r w3 ⟨v2, rfl, hown2, hk⟩
  have hex : ∃ a2 c2, v2 = .slice a2 (raceL z).length c2 := by
    obtain ⟨a, c, h1, _⟩ := rcS_own hown2 (by omega)
    exact ⟨a, c, h1⟩
  obtain ⟨a2, c2, rfl⟩ := hex
  replace hb := hb.trans (hk.mono hb.size)
  clear hk hown2
  have hqq : (q == q) = true := by simp
  go_wp2
  go_ret
  exact ⟨rfl, hb⟩
theorem fastNone_walk (a : Option Addr) (z : List Ev) (c : Nat) (w : World) (hf : EvS w a z ∧ z.length ≤ c ∧ z.length * 24 ≤ 140737488351232 ∧ ∀ e ∈ z, I64 e.k ∧ I64 e.t ∧ I64 e.o) :
    Calls Try.prog 14 #[.slice a z.length c] w fun e w' => e = .returned (.bool true) ∧ Below w.heap.size w w' := by
  by_cases hm : (played z).2.2 = 0
  · exact fastNone_ok a z c w hf.1 hm
  · exact fastNone_err a z c w hf.1 hm
/-! The frame of the law FastNone, by program. -/
set_option maxRecDepth 100000 in
theorem fastNone_lifted (os : Os) (started : os.Started) (H : Type) (enc : TypeId × Value → H) :
    ReturnsInHanded {} Try.checked os 14 .any (Rows.fastNoneSpec.pre6 enc Try.prog Try.f14 Rows.fastNoneRow.domain false) (Rows.fastNoneSpec.post enc Try.prog Try.f14 false true false false) := by
  refine returnsInHanded_of_change_shaped (C := Try.checked) frame_own started (by kernel_rfl) Try.func14
    (ChangeSpec.witness6 (enc := enc) (C := Try.checked) false ⟨#[], #[.slice none 0 0], []⟩ 8 (by kernel_rfl) (by kernel_rfl) (by kernel_rfl) (by kernel_rfl)) ?_
  intro W base args ds gs before hval0 hW hcnd hsz hshaped hroom
  clear hcnd hshaped
  have hval : ∀ (j : Nat) t v, Try.f14.params[j]? = some t → args[j]? = some v → Value.okWide Try.prog W .any base t v := hval0
  have hW' := hW
  obtain ⟨p, q, hA0, hV, rfl, hfz, hnd⟩ := hW
  have hA : DataW.TrodAll enc Try.prog W 0 (fun _ => true) true Try.f14.params.toList args.toList ds p := hA0
  rw [Try.params14] at hA hval
  obtain ⟨v0, vs0, d0, ds0, p0, q0, hargs, rfl, rfl, h0, r0⟩ := trodAll_cons hA
  obtain ⟨rfl, rfl, rfl⟩ := trodAll_nil r0
  obtain rfl : args = #[v0] := by cases args; simp_all
  obtain ⟨rfl, rfl⟩ := trodVars_none hV
  have k0 := h0
  have lt0 : ∀ x ∈ p0, x.block < W.heap.size := by obtain ⟨m, hm⟩ := k0; exact DataW.trod_lt m _ _ _ hm
  obtain ⟨a0, z0, c0, rfl, w0⟩ := open_evs (hval 0 22 v0 rfl rfl) h0 (fun els sp hd => sized_slice hsz (j := 0) rfl (by rw [hd]; rfl) Try.underlying22)
  clear hA0 hval0
  refine (fastNone_walk a0 z0 c0 W w0).mono fun e W' ⟨he, bel⟩ => ?_
  subst he
  exact ⟨_, rfl, _, _, _, [], _, [], hW', trodAll_mk1 (shut_bool Try.underlying4 _), (trodAll_cons_mk (Below.trod frame_laid (by kernel_rfl) (of_decide_eq_true (by kernel_rfl)) k0 bel lt0) trodAll_mk0), rfl, bel.frame _, fun h => by cases h⟩

theorem fastNone_over : Rows.fastNoneRow.holds Try.pinned (OpenSpec.ofChange Rows.fastNoneSpec) :=
  OpenClaim.holds_of_wide 14 Try.f14 rfl rfl rfl rfl rfl rfl rfl ⟨rfl, rfl, rfl, rfl, rfl⟩ rfl rfl rfl rfl rfl (by kernel_rfl) Try.func14 (by kernel_rfl)
    (of_decide_eq_true (by kernel_rfl)) (by unfold Func.isWrapper; first | (rw [if_pos (by decide +kernel)]; kernel_rfl) | (rw [if_neg (by decide +kernel)]; exact ⟨rfl, rfl⟩))
    (fun os started H enc _ => fastNone_lifted os started H enc)

/-- The statement. -/
theorem fastNone_holds : Rows.FastNoneSaid := fastNone_over

end Go.Proofs.Ytgliichceildgaa
