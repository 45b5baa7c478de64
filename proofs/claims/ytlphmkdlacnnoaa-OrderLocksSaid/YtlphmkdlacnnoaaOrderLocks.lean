/- OrderLocks: all events of one lock are ordered: for every trace. -/
import Derived.Test.YtlphmkdlacnnoaaRows
import Derived.Test.YtlphmkdlacnnoaaLawO
import Derived.Test.YtlphmkdlacnnoaaOrdF
import Derived.Test.YtlphmkdlacnnoaaOpenE
import Derived.Test.YtlphmkdlacnnoaaLok
namespace Go.Proofs.Ytlphmkdlacnnoaa
open Go.ChangeShapes Go.WideShapes Go.ChangeAt Go.RowKit Go.Maps

theorem isLk_any (e : Ev) (w : World) : Calls Try.prog 17 #[evV e] w fun r w' => r = .returned (.bool (isLk e)) ∧ Below w.heap.size w w' := by
  obtain ⟨k, t, o⟩ := e
  by_cases k3 : k = 3
  · have e1 : isLk ⟨k, t, o⟩ = true := by simp [isLk, k3]
    rw [e1]
    go_enter Try.func17, Try.ntmps17
    go_wp2
    go_ret
    exact ⟨rfl, (Below.refl _ _).alloc (Nat.le_refl _) _⟩
  · have e1 : isLk ⟨k, t, o⟩ = (k == 3 || k == 4) := rfl
    rw [e1]
    go_enter Try.func17, Try.ntmps17
    go_wp2
    go_ret
    exact ⟨rfl, (Below.refl _ _).alloc (Nat.le_refl _) _⟩

theorem orderLocks_no (a : Option Addr) (z : List Ev) (c : Nat) (w : World) (h : EvS w a z) (he : mayB z = false) :
    Calls Try.prog 5 #[.slice a z.length c] w fun e w' => e = .returned (.bool true) ∧ Below w.heap.size w w' := by
  go_enter Try.func5, Try.ntmps5
  go_wp2_with fail
  refine (ordered_any _).mono ?_
  rintro r w1 ⟨rfl, hb⟩
  go_wp2_with fail
  refine (may_any z a c _ (h.below hb)).mono ?_
  rintro r w2 ⟨rfl, hk⟩
  rw [he]
  go_wp2
  go_ret
  exact ⟨rfl, hb.trans (hk.mono hb.size)⟩

set_option maxHeartbeats 4000000 in
theorem orderLocks_ok (a : Option Addr) (z : List Ev) (c : Nat) (w : World) (h : EvS w a z) (hm : mayB z = true) :
    Calls Try.prog 5 #[.slice a z.length c] w fun e w' => e = .returned (.bool true) ∧ Below w.heap.size w w' := by
  have he := mayB_played hm
  have hbig := h.big
  have hl80 := (played_evs he).1
  have HM := Lib.hid hm
  have HE := Lib.hid he
  clear hm he
  go_enter Try.func5, Try.ntmps5
  go_wp2_with fail
  refine (ordered_any _).mono ?_
  rintro r w1 ⟨rfl, hb⟩
  go_wp2_with fail
  refine (may_any z a c _ (h.below hb)).mono ?_
  rintro r w2 ⟨rfl, hk⟩
  rw [HM.out]
  have hb2 := hb.trans (hk.mono hb.size)
  clear hk hb
  go_wp2_with fail
  refine (aheadMap_ok z a c _ (h.below hb2) HE.out).mono ?_
  rintro r w3 ⟨b, n, rfl, hbb, hn, hM, hk⟩
  have hb3 := hb2.trans (hk.mono hb2.size)
  clear hk
  replace h := h.below hb3
  go_wp2
  go_loopw [18] (fun i wr => ∃ k : Nat, k ≤ z.length ∧ i = .int .i64 k ∧ MapP wr b n (befL z) ∧ Below w3.heap.size w3 wr) (fun i _ => z.length - (intOf i).toNat)
  case atStart => exact ⟨0, Nat.zero_le _, rfl, hM, Below.refl _ _⟩
  case round =>
    clear hM
    obtain ⟨k, hk, rfl, hM, hb4⟩ := hrel
    obtain ⟨wo, rfl⟩ : ∃ wo : World, wo = wr := ⟨_, rfl⟩
    by_cases hlt : k < z.length
    · obtain ⟨ab, ao, rfl, d0, d1, d2⟩ := (h.below hb4).at hlt
      have hx : evAt z k = z[k] := by simp [evAt, hlt]
      generalize z[k] = x at *
      have HX := Lib.hid hx
      clear hx
      have hMx := hM.alloc (.cells (evC x) 30)
      have hb5 := hb4.alloc hb4.size (.cells (evC x) 30)
      have hN := Has.new wo (evC x) 30
      go_wp2
      go_loopw [7] (fun i w2 => ∃ m : Nat, k < m ∧ m ≤ z.length ∧ i = .int .i64 m ∧ MapP w2 b n (befL z) ∧ Has w2 wo.heap.size (evC x) 30 ∧ Below w3.heap.size w3 w2) (fun i _ => z.length - (intOf i).toNat)
      case atStart => exact ⟨k + 1, by omega, by omega, by go_num, hMx, hN, hb5⟩
      case round =>
        clear hM hMx hN hb5 hb4 d0 d1 d2
        obtain ⟨m, hkm, hmz, rfl, hM, hN, hb4⟩ := hrel
        by_cases hml : m < z.length
        · obtain ⟨b2, o2, hbo, d0, d1, d2⟩ := (h.below hb4).at hml
          cases hbo
          have hy : evAt z m = z[m] := by simp [evAt, hml]
          generalize z[m] = y at *
          have HY := Lib.hid hy
          clear hy
          have i0 : (0 : Int) ≤ m := by omega
          have i1 : (m : Int) < z.length := by omega
          have hM2 : MapP (wr.alloc (.cells (evC y) 30)) b n (befL z) := hM.alloc _
          have hN2 := hN.alloc (.cells (evC y) 30)
          have hb5 := hb4.alloc hb4.size (.cells (evC y) 30)
          have hNy := Has.new wr (evC y) 30
          have x0 : (wr.alloc (.cells (evC y) 30)).cell? ⟨wo.heap.size, 0, none⟩ = some (.int .i64 x.k) := hN2.cell rfl
          have x1 : (wr.alloc (.cells (evC y) 30)).cell? ⟨wo.heap.size, 1, none⟩ = some (.int .i64 x.t) := hN2.cell rfl
          have x2 : (wr.alloc (.cells (evC y) 30)).cell? ⟨wo.heap.size, 2, none⟩ = some (.int .i64 x.o) := hN2.cell rfl
          have hNy' := hNy.lt
          have hN' := hN2.lt
          go_wp2_with fail
          refine (isLk_any x _).mono ?_
          rintro r w4 ⟨rfl, hq⟩
          have hM3 : MapP w4 b n (befL z) := MapP.below hM2 hq
          have hN3 := hN2.below hq hN'
          have hNy3 := hNy.below hq hNy'
          have hb6 := hb5.trans (hq.mono hb5.size)
          clear x0 x1 x2 d0 d1 d2 hM hN hM2 hN2 hb5 hNy hb4 hq hN' hNy'
          cases hlx : isLk x
          · obtain ⟨hM5, hN5, hb5⟩ := (⟨hM3, hN3, hb6⟩ : _ ∧ _ ∧ _)
            go_wp2
            go_roundw
            case rel => exact ⟨m + 1, by omega, by omega, by go_num, hM5, hN5, hb5⟩
            case measure => (simp [intOf]; try omega)
          · have y0 : w4.cell? ⟨wr.heap.size, 0, none⟩ = some (.int .i64 y.k) := hNy3.cell rfl
            have y1 : w4.cell? ⟨wr.heap.size, 1, none⟩ = some (.int .i64 y.t) := hNy3.cell rfl
            have y2 : w4.cell? ⟨wr.heap.size, 2, none⟩ = some (.int .i64 y.o) := hNy3.cell rfl
            go_wp2_with fail
            refine (isLk_any y _).mono ?_
            rintro r w5 ⟨rfl, hq⟩
            have hM5 : MapP w5 b n (befL z) := MapP.below hM3 hq
            have hN5 := hN3.below hq hN3.lt
            have hNy5 := hNy3.below hq hNy3.lt
            have hb5 := hb6.trans (hq.mono hb6.size)
            clear y0 y1 y2 hM3 hN3 hNy3 hb6 hq
            have x2 : w5.cell? ⟨wo.heap.size, 2, none⟩ = some (.int .i64 x.o) := hN5.cell rfl
            have y2 : w5.cell? ⟨wr.heap.size, 2, none⟩ = some (.int .i64 y.o) := hNy5.cell rfl
            cases hly : isLk y
            · go_wp2
              go_roundw
              case rel => exact ⟨m + 1, by omega, by omega, by go_num, hM5, hN5, hb5⟩
              case measure => (simp [intOf]; try omega)
            · by_cases ho : x.o = y.o
              · have bo : (x.o == y.o) = true := by simp [ho]
                have hR : R z m k = true := locks_ordered HE.out hkm hml (by rw [HX.out]; exact hlx) (by rw [HY.out]; exact hly) (by rw [HX.out, HY.out]; exact ho)
                have hq := hM5.look1 hl80 k m (by omega) hml
                rw [hR] at hq
                clear hR ho
                go_wp2
                go_roundw
                case rel => exact ⟨m + 1, by omega, by omega, by go_num, hM5, hN5, hb5⟩
                case measure => (simp [intOf]; try omega)
              · have bo : (x.o == y.o) = false := by simp [ho]
                clear ho
                go_wp2
                go_roundw
                case rel => exact ⟨m + 1, by omega, by omega, by go_num, hM5, hN5, hb5⟩
                case measure => (simp [intOf]; try omega)
        · obtain rfl : m = z.length := by omega
          go_wp2
          go_roundw
          case rel => exact ⟨k + 1, by omega, by go_num, hM, hb4⟩
          case measure => (simp [intOf]; try omega)
    · obtain rfl : k = z.length := by omega
      go_wp2
      go_ret
      exact ⟨rfl, hb3.trans (hb4.mono hb3.size)⟩

theorem orderLocks_walk (a : Option Addr) (z : List Ev) (c : Nat) (w : World) (hf : EvS w a z ∧ z.length ≤ c ∧ z.length * 24 ≤ 140737488351232 ∧ ∀ e ∈ z, I64 e.k ∧ I64 e.t ∧ I64 e.o) :
    Calls Try.prog 5 #[.slice a z.length c] w fun e w' => e = .returned (.bool true) ∧ Below w.heap.size w w' := by
  cases hm : mayB z
  · exact orderLocks_no a z c w hf.1 hm
  · exact orderLocks_ok a z c w hf.1 hm
/-! The frame of the law OrderLocks, by program. -/
set_option maxRecDepth 100000 in
theorem orderLocks_lifted (os : Os) (started : os.Started) (H : Type) (enc : TypeId × Value → H) :
    ReturnsInHanded {} Try.checked os 5 .any (Rows.orderLocksSpec.pre6 enc Try.prog Try.f5 Rows.orderLocksRow.domain false) (Rows.orderLocksSpec.post enc Try.prog Try.f5 false true false false) := by
  refine returnsInHanded_of_change_shaped (C := Try.checked) frame_own started (by kernel_rfl) Try.func5
    (ChangeSpec.witness6 (enc := enc) (C := Try.checked) false ⟨#[], #[.slice none 0 0], []⟩ 8 (by kernel_rfl) (by kernel_rfl) (by kernel_rfl) (by kernel_rfl)) ?_
  intro W base args ds gs before hval0 hW hcnd hsz hshaped hroom
  clear hcnd hshaped
  have hval : ∀ (j : Nat) t v, Try.f5.params[j]? = some t → args[j]? = some v → Value.okWide Try.prog W .any base t v := hval0
  have hW' := hW
  obtain ⟨p, q, hA0, hV, rfl, hfz, hnd⟩ := hW
  have hA : DataW.TrodAll enc Try.prog W 0 (fun _ => true) true Try.f5.params.toList args.toList ds p := hA0
  rw [Try.params5] at hA hval
  obtain ⟨v0, vs0, d0, ds0, p0, q0, hargs, rfl, rfl, h0, r0⟩ := trodAll_cons hA
  obtain ⟨rfl, rfl, rfl⟩ := trodAll_nil r0
  obtain rfl : args = #[v0] := by cases args; simp_all
  obtain ⟨rfl, rfl⟩ := trodVars_none hV
  have k0 := h0
  have lt0 : ∀ x ∈ p0, x.block < W.heap.size := by obtain ⟨m, hm⟩ := k0; exact DataW.trod_lt m _ _ _ hm
  obtain ⟨a0, z0, c0, rfl, w0⟩ := open_evs (hval 0 22 v0 rfl rfl) h0 (fun els sp hd => sized_slice hsz (j := 0) rfl (by rw [hd]; rfl) Try.underlying22)
  clear hA0 hval0
  refine (orderLocks_walk a0 z0 c0 W w0).mono fun e W' ⟨he, bel⟩ => ?_
  subst he
  exact ⟨_, rfl, _, _, _, [], _, [], hW', trodAll_mk1 (shut_bool Try.underlying4 _), (trodAll_cons_mk (Below.trod frame_laid (by kernel_rfl) (of_decide_eq_true (by kernel_rfl)) k0 bel lt0) trodAll_mk0), rfl, bel.frame _, fun h => by cases h⟩

theorem orderLocks_over : Rows.orderLocksRow.holds Try.pinned (OpenSpec.ofChange Rows.orderLocksSpec) :=
  OpenClaim.holds_of_wide 5 Try.f5 rfl rfl rfl rfl rfl rfl rfl ⟨rfl, rfl, rfl, rfl, rfl⟩ rfl rfl rfl rfl rfl (by kernel_rfl) Try.func5 (by kernel_rfl)
    (of_decide_eq_true (by kernel_rfl)) (by unfold Func.isWrapper; first | (rw [if_pos (by decide +kernel)]; kernel_rfl) | (rw [if_neg (by decide +kernel)]; exact ⟨rfl, rfl⟩))
    (fun os started H enc _ => orderLocks_lifted os started H enc)

/-- The statement. -/
theorem orderLocks_holds : Rows.OrderLocksSaid := orderLocks_over

end Go.Proofs.Ytlphmkdlacnnoaa
