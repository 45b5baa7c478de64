/- SwapLeasts: equivalent traces have the same least trace, which is equivalent to them: for every trace and every slice of numbers. -/
import Derived.Test.YtdgkedpggmkclaaRows
import Derived.Test.YtdgkedpggmkclaaSwpC
import Derived.Test.YtdgkedpggmkclaaLeg
import Derived.Test.YtdgkedpggmkclaaOpenE
import Derived.Test.YtdgkedpggmkclaaOpenI
namespace Go.Proofs.Ytdgkedpggmkclaa
open Go.ChangeShapes Go.WideShapes Go.ChangeAt Go.RowKit

theorem eqEv_same (L : List Ev) (n m : Nat) (hn : L.length = n) (hm : L.length = m) (a a' : Option Addr) (c c' : Nat) (w : World) (h : EvS w a L) (h' : EvS w a' L) :
    Calls Try.prog 24 #[.slice a n c, .slice a' m c'] w fun e w' => e = .returned (.bool true) ∧ Below w.heap.size w w' := by
  subst hn; subst hm
  have := eqEv_any L L a a' c c' w h h'
  rwa [show eqB L L = true by simp [eqB]] at this
set_option maxRecDepth 100000 in
set_option maxHeartbeats 4000000 in
theorem swapLeasts_walk (a : Option Addr) (z : List Ev) (c : Nat) (a' : Option Addr) (l : List Int) (c' : Nat) (w : World) (hf : EvS w a z ∧ z.length ≤ c ∧ z.length * 24 ≤ 140737488351232 ∧ ∀ e ∈ z, I64 e.k ∧ I64 e.t ∧ I64 e.o) (hl : IntS w a' l ∧ l.length ≤ c' ∧ l.length * 8 ≤ 140737488351232 ∧ ∀ n ∈ l, I64 n) :
    Calls Try.prog 7 #[.slice a z.length c, .slice a' l.length c'] w fun e w' => e = .returned (.bool true) ∧ Below w.heap.size w w' := by
  have h := hf.1
  have h' := hl.1
  clear hf hl
  by_cases hp : (played z).2.2 = 0
  · have hM := swpL_eq l z
    have h1 := hM.ok hp
    have h2 := hM.least
    have h3 := hM.len
    have h4 := least_ok hp
    have h5 : leastL (leastL z) = leastL z := leastL_same z
    have h6 := leastL_len z
    obtain ⟨h7, h8⟩ := sameB_moved (to_least _ z rfl) hp
    rw [show leastN z.length z = leastL z from rfl] at h7 h8
    have HP := Lib.hid hp
    have H1 := Lib.hid h1
    have H2 := Lib.hid h2
    have H3 := Lib.hid h3
    have H4 := Lib.hid h4
    have H5 := Lib.hid h5
    have H6 := Lib.hid h6
    have H7 := Lib.hid h7
    have H8 := Lib.hid h8
    clear hp hM h1 h2 h3 h4 h5 h6 h7 h8
    go_enter Try.func7, Try.ntmps7
    go_wp2_with fail
    refine (swapped_any _).mono ?_
    rintro r w1 ⟨rfl, hb⟩
    go_wp2_with fail
    refine (leasts_ok z _ rfl a c _ (h.below hb) HP.out).mono ?_
    rintro r w2 ⟨a2, c2, rfl, hS, hk⟩
    replace hb := hb.trans (hk.mono hb.size)
    clear hk
    go_wp2_with fail
    refine (swaps_any z l a a' c c' _ (h.below hb) (h'.below hb) HP.out).mono ?_
    rintro r w3 ⟨a3, c3, rfl, hW, hk⟩
    replace hb := hb.trans (hk.mono hb.size)
    replace hS := hS.below hk
    clear hk
    rw [H3.out]
    go_wp2_with fail
    refine (leasts_ok (swpL z l) _ H3.out a3 c3 _ hW H1.out).mono ?_
    rintro r w4 ⟨a4, c4, rfl, hS4, hk⟩
    rw [H3.out]
    rw [H2.out] at hS4
    replace hb := hb.trans (hk.mono hb.size)
    replace hS := hS.below hk
    clear hk hW H1 H2 H3
    have hc5 := fun W (hW : EvS W a2 (leastL z)) => leasts_ok (leastL z) _ H6.out a2 c2 W hW H4.out
    have HC5 := Lib.hid hc5
    clear hc5
    go_wp2_with fail
    refine (HC5.out _ hS).mono ?_
    rintro r w5 ⟨a5, c5, rfl, hS5, hk⟩
    rw [H5.out] at hS5
    rw [H6.out]
    replace hb := hb.trans (hk.mono hb.size)
    replace hS := hS.below hk
    replace hS4 := hS4.below hk
    clear hk HC5 H5
    go_wp2_with fail
    refine (same_any z (leastL z) _ _ rfl H6.out a a2 c c2 _ (h.below hb) hS).mono ?_
    rintro r w6 ⟨rfl, hk⟩
    rw [H7.out, H8.out]
    replace hb := hb.trans (hk.mono hb.size)
    replace hS := hS.below hk
    replace hS4 := hS4.below hk
    replace hS5 := hS5.below hk
    clear hk H7 H8
    go_wp2_with fail
    refine (eqEv_same (leastL z) _ _ H6.out H6.out a2 a4 c2 c4 _ hS hS4).mono ?_
    rintro r w7 ⟨rfl, hk⟩
    replace hb := hb.trans (hk.mono hb.size)
    replace hS := hS.below hk
    replace hS5 := hS5.below hk
    clear hk hS4
    go_wp2_with fail
    refine (eqEv_same (leastL z) _ _ H6.out H6.out a2 a5 c2 c5 _ hS hS5).mono ?_
    rintro r w8 ⟨rfl, hk⟩
    replace hb := hb.trans (hk.mono hb.size)
    go_wp2
    go_ret
    exact ⟨rfl, hb⟩
  · have hz := Lib.hid hp
    go_enter Try.func7, Try.ntmps7
    go_wp2_with fail
    refine (swapped_any _).mono ?_
    rintro r w1 ⟨rfl, hb⟩
    go_wp2_with fail
    refine (leasts_no z _ rfl a c _ (h.below hb) hz.out).mono ?_
    rintro r w2 ⟨e, he, rfl, hk⟩
    have he2 : (e != 0) = true := by simpa using he
    replace hb := hb.trans (hk.mono hb.size)
    go_wp2
    go_ret
    exact ⟨rfl, hb⟩
/-! The frame of the law SwapLeasts, by program. -/
set_option maxRecDepth 100000 in
theorem swapLeasts_lifted (os : Os) (started : os.Started) (H : Type) (enc : TypeId × Value → H) :
    ReturnsInHanded {} Try.checked os 7 .any (Rows.swapLeastsSpec.pre6 enc Try.prog Try.f7 Rows.swapLeastsRow.domain false) (Rows.swapLeastsSpec.post enc Try.prog Try.f7 false true false false) := by
  refine returnsInHanded_of_change_shaped (C := Try.checked) frame_own started (by kernel_rfl) Try.func7
    (ChangeSpec.witness6 (enc := enc) (C := Try.checked) false ⟨#[], #[.slice none 0 0, .slice none 0 0], []⟩ 8 (by kernel_rfl) (by kernel_rfl) (by kernel_rfl) (by kernel_rfl)) ?_
  intro W base args ds gs before hval0 hW hcnd hsz hshaped hroom
  clear hcnd hshaped
  have hval : ∀ (j : Nat) t v, Try.f7.params[j]? = some t → args[j]? = some v → Value.okWide Try.prog W .any base t v := hval0
  have hW' := hW
  obtain ⟨p, q, hA0, hV, rfl, hfz, hnd⟩ := hW
  have hA : DataW.TrodAll enc Try.prog W 0 (fun _ => true) true Try.f7.params.toList args.toList ds p := hA0
  rw [Try.params7] at hA hval
  obtain ⟨v0, vs0, d0, ds0, p0, q0, hargs, rfl, rfl, h0, r0⟩ := trodAll_cons hA
  obtain ⟨v1, vs1, d1, ds1, p1, q1, rfl, rfl, rfl, h1, r1⟩ := trodAll_cons r0
  obtain ⟨rfl, rfl, rfl⟩ := trodAll_nil r1
  obtain rfl : args = #[v0, v1] := by cases args; simp_all
  obtain ⟨rfl, rfl⟩ := trodVars_none hV
  have k0 := h0
  have lt0 : ∀ x ∈ p0, x.block < W.heap.size := by obtain ⟨m, hm⟩ := k0; exact DataW.trod_lt m _ _ _ hm
  obtain ⟨a0, z0, c0, rfl, w0⟩ := open_evs (hval 0 28 v0 rfl rfl) h0 (fun els sp hd => sized_slice hsz (j := 0) rfl (by rw [hd]; rfl) Try.underlying28)
  have k1 := h1
  have lt1 : ∀ x ∈ p1, x.block < W.heap.size := by obtain ⟨m, hm⟩ := k1; exact DataW.trod_lt m _ _ _ hm
  obtain ⟨a1, z1, c1, rfl, w1⟩ := open_ints (hval 1 36 v1 rfl rfl) h1 (fun els sp hd => sized_slice hsz (j := 1) rfl (by rw [hd]; rfl) Try.underlying36)
  clear hA0 hval0
  refine (swapLeasts_walk a0 z0 c0 a1 z1 c1 W w0 w1).mono fun e W' ⟨he, bel⟩ => ?_
  subst he
  exact ⟨_, rfl, _, _, _, [], _, [], hW', trodAll_mk1 (shut_bool Try.underlying4 _), (trodAll_cons_mk (Below.trod frame_laid (by kernel_rfl) (of_decide_eq_true (by kernel_rfl)) k0 bel lt0) (trodAll_cons_mk (Below.trod frame_laid (by kernel_rfl) (of_decide_eq_true (by kernel_rfl)) k1 bel lt1) trodAll_mk0)), rfl, bel.frame _, fun h => by cases h⟩

theorem swapLeasts_over : Rows.swapLeastsRow.holds Try.pinned (OpenSpec.ofChange Rows.swapLeastsSpec) :=
  OpenClaim.holds_of_wide 7 Try.f7 rfl rfl rfl rfl rfl rfl rfl ⟨rfl, rfl, rfl, rfl, rfl⟩ rfl rfl rfl rfl rfl (by kernel_rfl) Try.func7 (by kernel_rfl)
    (of_decide_eq_true (by kernel_rfl)) (by unfold Func.isWrapper; first | (rw [if_pos (by decide +kernel)]; kernel_rfl) | (rw [if_neg (by decide +kernel)]; exact ⟨rfl, rfl⟩))
    (fun os started H enc _ => swapLeasts_lifted os started H enc)

/-- The statement. -/
theorem swapLeasts_holds : Rows.SwapLeastsSaid := swapLeasts_over

end Go.Proofs.Ytdgkedpggmkclaa
