/- SwapSort: the least trace has no two adjacent independent events of which the second one has the lower thread: for every trace. -/
import Derived.Test.YtdgkedpggmkclaaRows
import Derived.Test.YtdgkedpggmkclaaSwpC
import Derived.Test.YtdgkedpggmkclaaLef
import Derived.Test.YtdgkedpggmkclaaOpenE
import Derived.Test.YtdgkedpggmkclaaQui
import Derived.Deep.DeepCutAuto
namespace Go.Proofs.Ytdgkedpggmkclaa
open Go.ChangeShapes Go.WideShapes Go.ChangeAt Go.RowKit

set_option maxRecDepth 100000 in
set_option maxHeartbeats 4000000 in
theorem swapSort_walk (a : Option Addr) (z : List Ev) (c : Nat) (w : World) (hf : EvS w a z ∧ z.length ≤ c ∧ z.length * 24 ≤ 140737488351232 ∧ ∀ e ∈ z, I64 e.k ∧ I64 e.t ∧ I64 e.o) :
    Calls Try.prog 4 #[.slice a z.length c] w fun e w' => e = .returned (.bool true) ∧ Below w.heap.size w w' := by
  have h := hf.1
  by_cases hp : (played z).2.2 = 0
  · have hl80 := (played_evs hp).1
    have hsrt := fun i => least_sorted _ z i rfl
    have hmm : mayB (leastL z) = true := by simp [mayB, least_ok hp]
    have hle := leastL_len z
    have HS := Lib.hid hsrt
    have HMM := Lib.hid hmm
    have HP := Lib.hid hp
    clear hsrt hmm hp
    go_enter Try.func4, Try.ntmps4
    go_wp2_with fail
    refine (swapped_any _).mono ?_
    rintro r w1 ⟨rfl, hb⟩
    go_wp2_with fail
    refine (leasts_ok z _ rfl a c _ (h.below hb) HP.out).mono ?_
    rintro r w2 ⟨a2, c2, rfl, hS, hk⟩
    replace hb := hb.trans (hk.mono hb.size)
    have HLE := Lib.hid hle
    rw [show leastN z.length z = leastL z from rfl] at HS
    generalize leastL z = L at *
    clear hk HP hf h hle
    have hb2 := Below.refl w2.heap.size w2
    go_wp2
    go_loopw [5] (fun i wr => ∃ k : Nat, 1 ≤ k ∧ k ≤ z.length + 1 ∧ i = .int .i64 k ∧ Below w2.heap.size w2 wr) (fun i _ => z.length + 1 - (intOf i).toNat)
    case atStart => exact ⟨1, Nat.le_refl _, by omega, rfl, hb2⟩
    case round =>
      clear hb2
      obtain ⟨k, hk1, hk, rfl, hb2⟩ := hrel
      by_cases hlt : k < z.length
      · obtain ⟨i, rfl⟩ : ∃ i, k = i + 1 := ⟨k - 1, by omega⟩
        have hiL : i < L.length := by rw [HLE.out]; omega
        have hjL : i + 1 < L.length := by rw [HLE.out]; omega
        obtain ⟨g, o, rfl, d0, d1, d2⟩ := (hS.below hb2).at hiL
        obtain ⟨g', o', hgo, e0, e1, e2⟩ := (hS.below hb2).at hjL
        cases hgo
        have hno := HS.out i (by omega)
        rw [eg_get hiL, eg_get hjL] at hno
        generalize L[i] = x at *
        generalize L[i + 1] = y at *
        have k0 : (0 : Int) ≤ i := by omega
        have k1 : (i : Int) < z.length := by omega
        have k2 : (0 : Int) ≤ (i : Int) + 1 := by omega
        have k3 : (i : Int) + 1 < z.length := by omega
        have hw1 := IntWalk.i64_in ((i : Int) + 1) (by omega)
        have hw0 := IntWalk.i64_in (i : Int) (by omega)
        have hca := apart_any x y
        obtain ⟨q, hq⟩ : ∃ q, apartB x y = q := ⟨_, rfl⟩
        rw [hq] at hca hno
        have HC2 := Lib.hid fun p : Beyond wr => beyond_of (hca p.to)
        obtain ⟨q2, hq2⟩ : ∃ q2, decide (y.t < x.t) = q2 := ⟨_, rfl⟩
        have hqq : (q && q2) = false := by
          rw [← hq2]
          cases q
          · rfl
          · simpa using hno
        clear hca hq hno hk1
        obtain ⟨h0, h1, h2⟩ : (∀ p : Beyond wr, p.to.cell? ⟨g, o + i * 3, none⟩ = some (.int .i64 x.k)) ∧ (∀ p : Beyond wr, p.to.cell? ⟨g, o + i * 3 + 1, none⟩ = some (.int .i64 x.t)) ∧ ∀ p : Beyond wr, p.to.cell? ⟨g, o + i * 3 + 2, none⟩ = some (.int .i64 x.o) := ⟨fun p => p.cell d0, fun p => p.cell d1, fun p => p.cell d2⟩
        obtain ⟨f0, f1, f2⟩ : (∀ p : Beyond wr, p.to.cell? ⟨g, o + (i + 1) * 3, none⟩ = some (.int .i64 y.k)) ∧ (∀ p : Beyond wr, p.to.cell? ⟨g, o + (i + 1) * 3 + 1, none⟩ = some (.int .i64 y.t)) ∧ ∀ p : Beyond wr, p.to.cell? ⟨g, o + (i + 1) * 3 + 2, none⟩ = some (.int .i64 y.o) := ⟨fun p => p.cell e0, fun p => p.cell e1, fun p => p.cell e2⟩
        clear d0 d1 d2 e0 e1 e2
        go_upto_region 8 with fail
        cases q
        case' true => obtain rfl : q2 = false := by simpa using hqq
        all_goals
          clear hqq
          refine wp_region_beyond (by kernel_rfl) (by kernel_rfl) ?_
          repeat (with_reducible refine wpQuiet_step (fun K hK => ?_); go_simp; first | (with_reducible refine hK _ ?_) | (refine ⟨_, HC2.out, ?_⟩; with_reducible refine hK _ ?_); clear hK K)
          with_reducible refine wpQuiet_nil ?_
          rintro _ ⟨p, rfl⟩
          replace hb2 := hb2.trans (p.below.mono hb2.size)
          clear h0 h1 h2 f0 f1 f2 HC2
          generalize p.to = w5 at *
          go_wp2
          go_roundw
          case rel => exact ⟨i + 2, by omega, by omega, by go_num, hb2⟩
          case measure => (simp [intOf]; try omega)
      · have hkd : decide ((k : Int) < (z.length : Int)) = false := decide_eq_false (by omega)
        go_wp2_with fail
        refine (may_n L _ HLE.out a2 c2 _ (hS.below hb2)).mono ?_
        rintro r w8 ⟨rfl, hk8⟩
        rw [HMM.out]
        have hb8 := hb.trans ((hb2.trans (hk8.mono hb2.size)).mono hb.size)
        go_wp2
        go_ret
        exact ⟨rfl, hb8⟩
  · have hz := Lib.hid hp
    go_enter Try.func4, Try.ntmps4
    go_wp2_with fail
    refine (swapped_any _).mono ?_
    rintro r w1 ⟨rfl, hb⟩
    go_wp2_with fail
    refine (leasts_no z _ rfl a c _ (h.below hb) hz.out).mono ?_
    rintro r w2 ⟨e, he, rfl, hk⟩
    have he2 : (e != 0) = true := by simpa using he
    replace hb := hb.trans (hk.mono hb.size)
    go_wp2
    go_ret
    exact ⟨rfl, hb⟩
/-! The frame of the law SwapSort, by program. -/
set_option maxRecDepth 100000 in
theorem swapSort_lifted (os : Os) (started : os.Started) (H : Type) (enc : TypeId × Value → H) :
    ReturnsInHanded {} Try.checked os 4 .any (Rows.swapSortSpec.pre6 enc Try.prog Try.f4 Rows.swapSortRow.domain false) (Rows.swapSortSpec.post enc Try.prog Try.f4 false true false false) := by
  refine returnsInHanded_of_change_shaped (C := Try.checked) frame_own started (by kernel_rfl) Try.func4
    (ChangeSpec.witness6 (enc := enc) (C := Try.checked) false ⟨#[], #[.slice none 0 0], []⟩ 8 (by kernel_rfl) (by kernel_rfl) (by kernel_rfl) (by kernel_rfl)) ?_
  intro W base args ds gs before hval0 hW hcnd hsz hshaped hroom
  clear hcnd hshaped
  have hval : ∀ (j : Nat) t v, Try.f4.params[j]? = some t → args[j]? = some v → Value.okWide Try.prog W .any base t v := hval0
  have hW' := hW
  obtain ⟨p, q, hA0, hV, rfl, hfz, hnd⟩ := hW
  have hA : DataW.TrodAll enc Try.prog W 0 (fun _ => true) true Try.f4.params.toList args.toList ds p := hA0
  rw [Try.params4] at hA hval
  obtain ⟨v0, vs0, d0, ds0, p0, q0, hargs, rfl, rfl, h0, r0⟩ := trodAll_cons hA
  obtain ⟨rfl, rfl, rfl⟩ := trodAll_nil r0
  obtain rfl : args = #[v0] := by cases args; simp_all
  obtain ⟨rfl, rfl⟩ := trodVars_none hV
  have k0 := h0
  have lt0 : ∀ x ∈ p0, x.block < W.heap.size := by obtain ⟨m, hm⟩ := k0; exact DataW.trod_lt m _ _ _ hm
  obtain ⟨a0, z0, c0, rfl, w0⟩ := open_evs (hval 0 28 v0 rfl rfl) h0 (fun els sp hd => sized_slice hsz (j := 0) rfl (by rw [hd]; rfl) Try.underlying28)
  clear hA0 hval0
  refine (swapSort_walk a0 z0 c0 W w0).mono fun e W' ⟨he, bel⟩ => ?_
  subst he
  exact ⟨_, rfl, _, _, _, [], _, [], hW', trodAll_mk1 (shut_bool Try.underlying4 _), (trodAll_cons_mk (Below.trod frame_laid (by kernel_rfl) (of_decide_eq_true (by kernel_rfl)) k0 bel lt0) trodAll_mk0), rfl, bel.frame _, fun h => by cases h⟩

theorem swapSort_over : Rows.swapSortRow.holds Try.pinned (OpenSpec.ofChange Rows.swapSortSpec) :=
  OpenClaim.holds_of_wide 4 Try.f4 rfl rfl rfl rfl rfl rfl rfl ⟨rfl, rfl, rfl, rfl, rfl⟩ rfl rfl rfl rfl rfl (by kernel_rfl) Try.func4 (by kernel_rfl)
    (of_decide_eq_true (by kernel_rfl)) (by unfold Func.isWrapper; first | (rw [if_pos (by decide +kernel)]; kernel_rfl) | (rw [if_neg (by decide +kernel)]; exact ⟨rfl, rfl⟩))
    (fun os started H enc _ => swapSort_lifted os started H enc)

/-- The statement. -/
theorem swapSort_holds : Rows.SwapSortSaid := swapSort_over

end Go.Proofs.Ytdgkedpggmkclaa
