/- OrderStrict: happens-before is transitive and irreflexive and agrees with the order of the trace: for every trace. -/
import Derived.Test.YtlphmkdlacnnoaaRows
import Derived.Test.YtlphmkdlacnnoaaLawO
import Derived.Test.YtlphmkdlacnnoaaOrdF
import Derived.Test.YtlphmkdlacnnoaaOpenE
import Derived.Test.YtlphmkdlacnnoaaRng
namespace Go.Proofs.Ytlphmkdlacnnoaa
open Go.ChangeShapes Go.WideShapes Go.ChangeAt Go.RowKit Go.Maps

theorem orderStrict_no (a : Option Addr) (z : List Ev) (c : Nat) (w : World) (h : EvS w a z) (he : mayB z = false) :
    Calls Try.prog 3 #[.slice a z.length c] w fun e w' => e = .returned (.bool true) ∧ Below w.heap.size w w' := by
  go_enter Try.func3, Try.ntmps3
  go_wp2_with fail
  refine (ordered_any _).mono ?_
  rintro r w1 ⟨rfl, hb⟩
  go_wp2_with fail
  refine (may_any z a c _ (h.below hb)).mono ?_
  rintro r w2 ⟨rfl, hk⟩
  rw [he]
  go_wp2
  go_ret
  exact ⟨rfl, hb.trans (hk.mono hb.size)⟩

set_option maxHeartbeats 4000000 in
theorem orderStrict_ok (a : Option Addr) (z : List Ev) (c : Nat) (w : World) (h : EvS w a z) (hm : mayB z = true) :
    Calls Try.prog 3 #[.slice a z.length c] w fun e w' => e = .returned (.bool true) ∧ Below w.heap.size w w' := by
  have he := mayB_played hm
  have hbig := h.big
  have hl80 := (played_evs he).1
  have HM := Lib.hid hm
  have HE := Lib.hid he
  clear hm he
  go_enter Try.func3, Try.ntmps3
  go_wp2_with fail
  refine (ordered_any _).mono ?_
  rintro r w1 ⟨rfl, hb⟩
  go_wp2_with fail
  refine (may_any z a c _ (h.below hb)).mono ?_
  rintro r w2 ⟨rfl, hk⟩
  rw [HM.out]
  have hb2 := hb.trans (hk.mono hb.size)
  clear hk hb
  go_wp2_with fail
  refine (aheadMap_ok z a c _ (h.below hb2) HE.out).mono ?_
  rintro r w3 ⟨b, n, rfl, hbb, hn, hM, hk⟩
  have hb3 := hb2.trans (hk.mono hb2.size)
  clear hk
  replace h := h.below hb3
  have HI := Lib.hid (I64P_bef hl80)
  have hMl := World.ownsMap.lt hM
  go_wp2_with (first | (at_range; refine wpList_range_set _ rfl _ rfl b n _ rfl hM ?_; intro w4 cnt0 hrg0 hg0 hs0) | go_in)
  go_frame
  have hb4 := ((Below.refl w3.heap.size w3).grown hg0 (Nat.le_refl _) (fun j hj => by cases hj))
  generalize hr : w3.heap.size = rr at *
  go_loopw [4] (fun _ wr => ∃ cnt, RangeP wr b rr n (befL z) cnt ∧ Below rr w3 wr) (fun _ wr => wr.rangeLeft b rr)
  case atStart => exact ⟨_, hrg0, hb4⟩
  case round =>
    clear hrg0 hb4 hg0 hs0 hM
    obtain ⟨cnt, hrg, hb4⟩ := hrel
    go_wp2_with (first | (at_next; refine wpList_next_set _ rfl _ rfl b rr n _ cnt rfl hrg HI.out ?_ ?_) | go_in)
    · intro _
      go_wp2
      go_ret
      subst hr
      exact ⟨rfl, hb3.trans (hb4.mono hb3.size)⟩
    · intro pi pj xx w5 cnt' hp hrg5 hlt5 hg5 hs5 hen
      obtain ⟨i, j, hpe, hj, hRji⟩ := mem_befL.1 hp
      obtain ⟨rfl, rfl⟩ := Prod.mk.inj hpe
      have hij := R_lt hRji
      have hb5 := hb4.grown hg5 (by have := hb4.size; omega) (fun q hq => by cases hq; exact Nat.le_refl _)
      have hrg6 := hrg5.alloc (.cells #[.int .i64 (i : Int), .int .i64 (j : Int)] 28)
      have hb6 := hb5.alloc (by have := hb5.size; omega) (.cells #[.int .i64 (i : Int), .int .i64 (j : Int)] 28)
      have hN := Has.new w5 #[.int .i64 (i : Int), .int .i64 (j : Int)] 28
      have hge : ((i : Int) ≥ (j : Int)) = False := by simp; omega
      have hge2 : decide ((i : Int) ≥ (j : Int)) = false := by simp; omega
      have hge3 : decide ((j : Int) ≤ (i : Int)) = false := by simp; omega
      have HR := Lib.hid hRji
      clear hRji hp hpe hs5
      go_wp2
      go_loopw [26] (fun v w2 => ∃ m : Nat, m ≤ z.length ∧ v = .int .i64 m ∧ RangeP w2 b rr n (befL z) cnt' ∧ Has w2 w5.heap.size #[.int .i64 (i : Int), .int .i64 (j : Int)] 28 ∧ Below rr w3 w2) (fun v _ => z.length - (intOf v).toNat)
      case atStart => exact ⟨0, Nat.zero_le _, rfl, hrg6, hN, hb6⟩
      case round =>
        clear hrg6 hN hb6 hge hge2 hge3
        obtain ⟨wv, rfl⟩ : ∃ wv : World, wv = wr := ⟨_, rfl⟩
        obtain ⟨m, hmz, rfl, hrg6, hN, hb6⟩ := hrel
        by_cases hml : m < z.length
        · have n0 : wv.cell? ⟨w5.heap.size, 0, none⟩ = some (.int .i64 (i : Int)) := hN.cell rfl
          have n1 : wv.cell? ⟨w5.heap.size, 1, none⟩ = some (.int .i64 (j : Int)) := hN.cell rfl
          have hq1 := hrg6.map.look1 hl80 j m (by omega) hml
          have hq2 := hrg6.map.look1 hl80 i m (by omega) hml
          cases hR : R z m j
          · rw [hR] at hq1
            clear hR hq2
            go_wp2
            go_roundw
            case rel => exact ⟨m + 1, by omega, by go_num, hrg6, hN, hb6⟩
            case measure => (simp [intOf]; try omega)
          · rw [R_trans hR HR.out] at hq2
            rw [hR] at hq1
            clear hR
            go_wp2
            go_roundw
            case rel => exact ⟨m + 1, by omega, by go_num, hrg6, hN, hb6⟩
            case measure => (simp [intOf]; try omega)
        · obtain rfl : m = z.length := by omega
          go_wp2
          go_roundw
          case rel => exact ⟨_, hrg6, hb6⟩
          case measure => rw [hrg6.left_eq, hrg.left_eq]; exact hlt5

theorem orderStrict_walk (a : Option Addr) (z : List Ev) (c : Nat) (w : World) (hf : EvS w a z ∧ z.length ≤ c ∧ z.length * 24 ≤ 140737488351232 ∧ ∀ e ∈ z, I64 e.k ∧ I64 e.t ∧ I64 e.o) :
    Calls Try.prog 3 #[.slice a z.length c] w fun e w' => e = .returned (.bool true) ∧ Below w.heap.size w w' := by
  cases hm : mayB z
  · exact orderStrict_no a z c w hf.1 hm
  · exact orderStrict_ok a z c w hf.1 hm
/-! The frame of the law OrderStrict, by program. -/
set_option maxRecDepth 100000 in
theorem orderStrict_lifted (os : Os) (started : os.Started) (H : Type) (enc : TypeId × Value → H) :
    ReturnsInHanded {} Try.checked os 3 .any (Rows.orderStrictSpec.pre6 enc Try.prog Try.f3 Rows.orderStrictRow.domain false) (Rows.orderStrictSpec.post enc Try.prog Try.f3 false true false false) := by
  refine returnsInHanded_of_change_shaped (C := Try.checked) frame_own started (by kernel_rfl) Try.func3
    (ChangeSpec.witness6 (enc := enc) (C := Try.checked) false ⟨#[], #[.slice none 0 0], []⟩ 8 (by kernel_rfl) (by kernel_rfl) (by kernel_rfl) (by kernel_rfl)) ?_
  intro W base args ds gs before hval0 hW hcnd hsz hshaped hroom
  clear hcnd hshaped
  have hval : ∀ (j : Nat) t v, Try.f3.params[j]? = some t → args[j]? = some v → Value.okWide Try.prog W .any base t v := hval0
  have hW' := hW
  obtain ⟨p, q, hA0, hV, rfl, hfz, hnd⟩ := hW
  have hA : DataW.TrodAll enc Try.prog W 0 (fun _ => true) true Try.f3.params.toList args.toList ds p := hA0
  rw [Try.params3] at hA hval
  obtain ⟨v0, vs0, d0, ds0, p0, q0, hargs, rfl, rfl, h0, r0⟩ := trodAll_cons hA
  obtain ⟨rfl, rfl, rfl⟩ := trodAll_nil r0
  obtain rfl : args = #[v0] := by cases args; simp_all
  obtain ⟨rfl, rfl⟩ := trodVars_none hV
  have k0 := h0
  have lt0 : ∀ x ∈ p0, x.block < W.heap.size := by obtain ⟨m, hm⟩ := k0; exact DataW.trod_lt m _ _ _ hm
  obtain ⟨a0, z0, c0, rfl, w0⟩ := open_evs (hval 0 22 v0 rfl rfl) h0 (fun els sp hd => sized_slice hsz (j := 0) rfl (by rw [hd]; rfl) Try.underlying22)
  clear hA0 hval0
  refine (orderStrict_walk a0 z0 c0 W w0).mono fun e W' ⟨he, bel⟩ => ?_
  subst he
  exact ⟨_, rfl, _, _, _, [], _, [], hW', trodAll_mk1 (shut_bool Try.underlying4 _), (trodAll_cons_mk (Below.trod frame_laid (by kernel_rfl) (of_decide_eq_true (by kernel_rfl)) k0 bel lt0) trodAll_mk0), rfl, bel.frame _, fun h => by cases h⟩

theorem orderStrict_over : Rows.orderStrictRow.holds Try.pinned (OpenSpec.ofChange Rows.orderStrictSpec) :=
  OpenClaim.holds_of_wide 3 Try.f3 rfl rfl rfl rfl rfl rfl rfl ⟨rfl, rfl, rfl, rfl, rfl⟩ rfl rfl rfl rfl rfl (by kernel_rfl) Try.func3 (by kernel_rfl)
    (of_decide_eq_true (by kernel_rfl)) (by unfold Func.isWrapper; first | (rw [if_pos (by decide +kernel)]; kernel_rfl) | (rw [if_neg (by decide +kernel)]; exact ⟨rfl, rfl⟩))
    (fun os started H enc _ => orderStrict_lifted os started H enc)

/-- The statement. -/
theorem orderStrict_holds : Rows.OrderStrictSaid := orderStrict_over

end Go.Proofs.Ytlphmkdlacnnoaa
