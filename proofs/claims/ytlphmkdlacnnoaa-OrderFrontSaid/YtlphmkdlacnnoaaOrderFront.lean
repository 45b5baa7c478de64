/- OrderFront: the order of events does not depend on later events, and Before and Leads agree: for every trace. -/
import Derived.Test.YtlphmkdlacnnoaaRows
import Derived.Test.YtlphmkdlacnnoaaRng
import Derived.Test.YtlphmkdlacnnoaaOrdF
import Derived.Test.YtlphmkdlacnnoaaLead
import Derived.Test.YtlphmkdlacnnoaaRest
import Derived.Test.YtlphmkdlacnnoaaOpenE
import Derived.Deep.RegionHeld3
import Derived.Deep.RegionLaw
namespace Go.Proofs.Ytlphmkdlacnnoaa
open Go.ChangeShapes Go.WideShapes Go.ChangeAt Go.RowKit Go.Maps

theorem aheadMap_n (l : List Ev) (n : Nat) (hn : l.length = n) (a : Option Addr) (c : Nat) (w : World) (h : EvS w a l) (he : (played l).2.2 = 0) :
    Calls Try.prog 16 #[.slice a n c] w (AheadPost (befL l) w) := by
  subst hn; exact aheadMap_ok l a c w h he
theorem ordFront_no (a : Option Addr) (z : List Ev) (c : Nat) (n i j : Int) (w : World) (h : EvS w a z) (he : mayB z = false) :
    Calls Try.prog 8 #[.slice a z.length c, .int .i64 n, .int .i64 i, .int .i64 j] w fun e w' => e = .returned (.bool true) ∧ Below w.heap.size w w' := by
  go_enter Try.func8, Try.ntmps8
  go_wp2_with fail
  refine (ordered_any _).mono ?_
  rintro r w1 ⟨rfl, hb⟩
  go_wp2_with fail
  refine (may_any z a c _ (h.below hb)).mono ?_
  rintro r w2 ⟨rfl, hk⟩
  rw [he]
  go_wp2
  go_ret
  exact ⟨rfl, hb.trans (hk.mono hb.size)⟩
theorem ordFront_nil (a : Option Addr) (c : Nat) (n i j : Int) (w : World) (h : EvS w a []) :
    Calls Try.prog 8 #[.slice a 0 c, .int .i64 n, .int .i64 i, .int .i64 j] w fun e w' => e = .returned (.bool true) ∧ Below w.heap.size w w' := by
  go_enter Try.func8, Try.ntmps8
  go_wp2_with fail
  refine (ordered_any _).mono ?_
  rintro r w1 ⟨rfl, hb⟩
  go_wp2_with fail
  refine (may_n [] 0 rfl a c _ (h.below hb)).mono ?_
  rintro r w2 ⟨rfl, hk⟩
  rw [show mayB [] = true from rfl]
  go_wp2
  go_ret
  exact ⟨rfl, hb.trans (hk.mono hb.size)⟩
/-- What holds of the front. -/
theorem front_R {z : List Ev} {nn : Nat} {i j : Nat} (hj : j < nn) : R (z.take nn) j i = R z j i := R_take z nn j i hj

set_option maxHeartbeats 8000000 in
theorem ordFront_ok (a : Option Addr) (z : List Ev) (c : Nat) (n i j : Int) (w : World) (h : EvS w a z) (hc : z.length ≤ c) (hm : mayB z = true) (h0 : 0 < z.length) :
    Calls Try.prog 8 #[.slice a z.length c, .int .i64 n, .int .i64 i, .int .i64 j] w fun e w' => e = .returned (.bool true) ∧ Below w.heap.size w w' := by
  have he := mayB_played hm
  have hbig := h.big
  have hl80 := (played_evs he).1
  obtain ⟨ab, ao, rfl⟩ : ∃ b o, a = some ⟨b, o, none⟩ := by
    rcases h.ok with h1 | ⟨b, o, ha, _⟩
    · simp [h1] at h0
    · exact ⟨b, o, ha⟩
  obtain ⟨nn, hnn, hnz⟩ : ∃ k : Nat, n % ((z.length : Int) + 1) = k ∧ k ≤ z.length := ⟨(n % ((z.length : Int) + 1)).toNat, by have := Int.emod_nonneg n (show (z.length : Int) + 1 ≠ 0 by omega); omega, by have := Int.emod_lt_of_pos n (show 0 < (z.length : Int) + 1 by omega); omega⟩
  obtain ⟨ii, hii, hiz⟩ : ∃ k : Nat, i % (z.length : Int) = k ∧ k < z.length := ⟨(i % (z.length : Int)).toNat, by have := Int.emod_nonneg i (show (z.length : Int) ≠ 0 by omega); omega, by have := Int.emod_lt_of_pos i (show 0 < (z.length : Int) by omega); omega⟩
  obtain ⟨jj, hjj, hjz⟩ : ∃ k : Nat, j % (z.length : Int) = k ∧ k < z.length := ⟨(j % (z.length : Int)).toNat, by have := Int.emod_nonneg j (show (z.length : Int) ≠ 0 by omega); omega, by have := Int.emod_lt_of_pos j (show 0 < (z.length : Int) by omega); omega⟩
  have hmt := mayB_take nn hm
  have hlt : (z.take nn).length = nn := by simp; omega
  have HT := Lib.hid (mayB_played hmt)
  have HL := Lib.hid hlt
  have HN := Lib.hid hnn
  have HI := Lib.hid hii
  have HJ := Lib.hid hjj
  have HM := Lib.hid hm
  have HE := Lib.hid he
  clear hm he hmt hlt hnn hii hjj
  go_enter Try.func8, Try.ntmps8
  go_wp2_with fail
  refine (ordered_any _).mono ?_
  rintro r w1 ⟨rfl, hb⟩
  go_wp2_with fail
  refine (may_any z _ c _ (h.below hb)).mono ?_
  rintro r w2 ⟨rfl, hk⟩
  rw [HM.out]
  replace hb := hb.trans (hk.mono hb.size)
  have hz0 : ((z.length : Int) == 0) = false := by rw [beq_eq_false_iff_ne]; omega
  clear hk
  go_wp2_with fail
  refine (rest_any n ((z.length : Int) + 1) _ (by omega) (by omega)).mono ?_
  rintro r w3 ⟨rfl, hw⟩
  rw [hw]
  clear hw
  rw [HN.out]
  go_wp2_with fail
  refine (rest_any i (z.length : Int) _ (by omega) (by omega)).mono ?_
  rintro r w3 ⟨rfl, hw⟩
  rw [hw]
  clear hw
  rw [HI.out]
  go_wp2_with fail
  refine (rest_any j (z.length : Int) _ (by omega) (by omega)).mono ?_
  rintro r w3 ⟨rfl, hw⟩
  rw [hw]
  clear hw
  rw [HJ.out]
  replace h := h.below hb
  have i0 : (0 : Int) ≤ nn := by omega
  have i1 : (nn : Int) ≤ c := by omega
  go_wp2_with fail
  have hd := (Below.refl w2.heap.size w2).drew
  go_region_held3 (fun W => Below w2.heap.size w2 W)
    (first | exact hd | exact hd.trans (hk1.mono hd.size) | exact (hd.trans (hk1.mono hd.size)).trans (hk2.mono (hd.trans (hk1.mono hd.size)).size))
    (first
      | (go_at_call_of 16 (Value.slice (some ⟨ab, ao, none⟩) z.length c); refine (aheadMap_ok z (some ⟨ab, ao, none⟩) c _ (h.below hd) HE.out).mono ?_; rintro r x1 ⟨b1, n1, rfl, g1, g2, hM1, hk1⟩)
      | (go_at_call_of 16 (Value.slice (some ⟨ab, ao, none⟩) nn c); refine (aheadMap_n (z.take nn) nn HL.out (some ⟨ab, ao, none⟩) c _ ((h.take nn).below (hd.trans (hk1.mono hd.size))) HT.out).mono ?_; rintro r x2 ⟨b2, n2, rfl, g3, g4, hM2, hk2⟩))
  all_goals
    have hb3 := hb.trans (((hd.trans (hk1.mono hd.size)).trans (hk2.mono (hd.trans (hk1.mono hd.size)).size)).mono hb.size)
    have hA := hM1.below hk2
    have h3 := h.below ((hd.trans (hk1.mono hd.size)).trans (hk2.mono (hd.trans (hk1.mono hd.size)).size))
    have HI1 := Lib.hid (I64P_bef hl80)
    have HI2 := Lib.hid (I64P_bef (show (z.take nn).length ≤ 80 by simp; omega))
    have hAl := World.ownsMap.lt hA
    have hBl := World.ownsMap.lt hM2
    clear hk1 hk2 hM1 hd h g1 g2 g3 g4
    have hB := hM2
    clear hM2
    go_wp2_with (first | (at_range; refine wpList_range_set _ rfl _ rfl b1 n1 _ rfl hA ?_; intro w4 cnt0 hrg0 hg0 hs0) | go_in)
    go_frame
    have hb4 := ((Below.refl x2.heap.size x2).grown hg0 (Nat.le_refl _) (fun j hj => by cases hj))
    generalize hr : x2.heap.size = rr at *
    go_loopw [11] (fun _ wr => ∃ cnt, RangeP wr b1 rr n1 (befL z) cnt ∧ Below rr x2 wr) (fun _ wr => wr.rangeLeft b1 rr)
    case atStart => exact ⟨_, hrg0, hb4⟩
    case round =>
      clear hrg0 hb4 hg0 hs0
      obtain ⟨cnt, hrg, hb4⟩ := hrel
      go_wp2_with (first | (at_next; refine wpList_next_set _ rfl _ rfl b1 rr n1 _ cnt rfl hrg HI1.out ?_ ?_) | go_in)
      · intro _
        subst hr
        have hB4 := hB.below hb4
        have hA4 := hA.below hb4
        have hb40 := hb3.trans (hb4.mono hb3.size)
        clear hb3 hrg
        obtain ⟨y2, rfl⟩ : ∃ y2 : World, y2 = wr := ⟨_, rfl⟩
        go_wp2_with (first | (at_range; refine wpList_range_set _ rfl _ rfl b2 n2 _ rfl hB4 ?_; intro w5 cnt5 hrg5 hg5 hs5) | go_in)
        go_frame
        have hb5 := ((Below.refl y2.heap.size y2).grown hg5 (Nat.le_refl _) (fun j hj => by cases hj))
        generalize hr : y2.heap.size = rr at *
        go_loopw [12] (fun _ wr => ∃ cnt, RangeP wr b2 rr n2 (befL (z.take nn)) cnt ∧ Below rr y2 wr) (fun _ wr => wr.rangeLeft b2 rr)
        case atStart => exact ⟨_, hrg5, hb5⟩
        case round =>
          clear hrg5 hb5 hg5 hs5
          obtain ⟨cnt, hrg, hb5⟩ := hrel
          go_wp2_with (first | (at_next; refine wpList_next_set _ rfl _ rfl b2 rr n2 _ cnt rfl hrg HI2.out ?_ ?_) | go_in)
          · intro _
            subst hr
            have h5 := (h3.below (hb4.mono (Nat.le_refl _))).below hb5
            have hb50 := hb40.trans (hb5.mono hb40.size)
            have hA5 := hA4.below hb5
            go_wp2_with fail
            refine (leads_ok z ii jj _ c _ h5 HE.out hiz hjz).mono ?_
            rintro r w6 ⟨rfl, hk6⟩
            have hq := ((hA5.below hk6)).look1 hl80 ii jj hiz hjz
            have hb60 := hb50.trans (hk6.mono hb50.size)
            generalize R z jj ii = rb at *
            go_wp2
            go_ret
            exact ⟨ret_bool (by simp), hb60⟩
          · intro pi pj xx w5 cnt' hp hrg5 hlt5 hg5 hs5 hen
            obtain ⟨i', j', hpe, hj', hRji⟩ := mem_befL.1 hp
            obtain ⟨rfl, rfl⟩ := Prod.mk.inj hpe
            rw [HL.out] at hj'
            rw [front_R hj'] at hRji
            have hij := R_lt hRji
            have hb6 := hb5.grown hg5 (by have := hb5.size; omega) (fun q hq => by cases hq; exact Nat.le_refl _)
            have hrg6 := hrg5.alloc (.cells #[.int .i64 (i' : Int), .int .i64 (j' : Int)] 28)
            have hb7 := hb6.alloc (by have := hb6.size; omega) (.cells #[.int .i64 (i' : Int), .int .i64 (j' : Int)] 28)
            have hN := Has.new w5 #[.int .i64 (i' : Int), .int .i64 (j' : Int)] 28
            have q0 : (w5.alloc (.cells #[.int .i64 (i' : Int), .int .i64 (j' : Int)] 28)).cell? ⟨w5.heap.size, 0, none⟩ = some (.int .i64 (i' : Int)) := hN.cell rfl
            have q1 : (w5.alloc (.cells #[.int .i64 (i' : Int), .int .i64 (j' : Int)] 28)).cell? ⟨w5.heap.size, 1, none⟩ = some (.int .i64 (j' : Int)) := hN.cell rfl
            subst hr
            have hq := (hA4.below hb7).look1 hl80 i' j' (by omega) (by omega)
            rw [hRji] at hq
            clear hRji hp hpe hs5
            go_wp2
            go_roundw
            case rel => exact ⟨_, hrg6, hb7⟩
            case measure => rw [hrg6.left_eq, hrg.left_eq]; exact hlt5
      · intro pi pj xx w5 cnt' hp hrg5 hlt5 hg5 hs5 hen
        obtain ⟨i', j', hpe, hj', hRji⟩ := mem_befL.1 hp
        obtain ⟨rfl, rfl⟩ := Prod.mk.inj hpe
        have hij := R_lt hRji
        have hb6 := hb4.grown hg5 (by have := hb4.size; omega) (fun q hq => by cases hq; exact Nat.le_refl _)
        have hrg6 := hrg5.alloc (.cells #[.int .i64 (i' : Int), .int .i64 (j' : Int)] 28)
        have hb7 := hb6.alloc (by have := hb6.size; omega) (.cells #[.int .i64 (i' : Int), .int .i64 (j' : Int)] 28)
        have hN := Has.new w5 #[.int .i64 (i' : Int), .int .i64 (j' : Int)] 28
        have q0 : (w5.alloc (.cells #[.int .i64 (i' : Int), .int .i64 (j' : Int)] 28)).cell? ⟨w5.heap.size, 0, none⟩ = some (.int .i64 (i' : Int)) := hN.cell rfl
        have q1 : (w5.alloc (.cells #[.int .i64 (i' : Int), .int .i64 (j' : Int)] 28)).cell? ⟨w5.heap.size, 1, none⟩ = some (.int .i64 (j' : Int)) := hN.cell rfl
        subst hr
        by_cases hjn : j' < nn
        · have hq := (hB.below hb7).look1 (show (z.take nn).length ≤ 80 by simp; omega) i' j' (by rw [HL.out]; omega) (by rw [HL.out]; omega)
          rw [front_R hjn, hRji] at hq
          clear hRji hp hpe hs5
          go_wp2
          go_roundw
          case rel => exact ⟨_, hrg6, hb7⟩
          case measure => rw [hrg6.left_eq, hrg.left_eq]; exact hlt5
        · have hdn : decide (j' < nn) = false := by simpa using hjn
          clear hRji hp hpe hs5
          go_wp2
          go_roundw
          case rel => exact ⟨_, hrg6, hb7⟩
          case measure => rw [hrg6.left_eq, hrg.left_eq]; exact hlt5

theorem orderFront_walk (a : Option Addr) (z : List Ev) (c : Nat) (n i j : Int) (w : World) (hf : EvS w a z ∧ z.length ≤ c ∧ z.length * 24 ≤ 140737488351232 ∧ ∀ e ∈ z, I64 e.k ∧ I64 e.t ∧ I64 e.o) (_ : I64 n) (_ : I64 i) (_ : I64 j) :
    Calls Try.prog 8 #[.slice a z.length c, .int .i64 n, .int .i64 i, .int .i64 j] w fun e w' => e = .returned (.bool true) ∧ Below w.heap.size w w' := by
  cases hm : mayB z
  · exact ordFront_no a z c n i j w hf.1 hm
  · by_cases h0 : 0 < z.length
    · exact ordFront_ok a z c n i j w hf.1 hf.2.1 hm h0
    · obtain rfl : z = [] := List.eq_nil_of_length_eq_zero (by omega)
      exact ordFront_nil a c n i j w hf.1
/-! The frame of the law OrderFront, by program. -/
set_option maxRecDepth 100000 in
theorem orderFront_lifted (os : Os) (started : os.Started) (H : Type) (enc : TypeId × Value → H) :
    ReturnsInHanded {} Try.checked os 8 .any (Rows.orderFrontSpec.pre6 enc Try.prog Try.f8 Rows.orderFrontRow.domain false) (Rows.orderFrontSpec.post enc Try.prog Try.f8 false true false false) := by
  refine returnsInHanded_of_change_shaped (C := Try.checked) frame_own started (by kernel_rfl) Try.func8
    (ChangeSpec.witness6 (enc := enc) (C := Try.checked) false ⟨#[], #[.slice none 0 0, .int .i64 0, .int .i64 0, .int .i64 0], []⟩ 8 (by kernel_rfl) (by kernel_rfl) (by kernel_rfl) (by kernel_rfl)) ?_
  intro W base args ds gs before hval0 hW hcnd hsz hshaped hroom
  clear hcnd hshaped
  have hval : ∀ (j : Nat) t v, Try.f8.params[j]? = some t → args[j]? = some v → Value.okWide Try.prog W .any base t v := hval0
  have hW' := hW
  obtain ⟨p, q, hA0, hV, rfl, hfz, hnd⟩ := hW
  have hA : DataW.TrodAll enc Try.prog W 0 (fun _ => true) true Try.f8.params.toList args.toList ds p := hA0
  rw [Try.params8] at hA hval
  obtain ⟨v0, vs0, d0, ds0, p0, q0, hargs, rfl, rfl, h0, r0⟩ := trodAll_cons hA
  obtain ⟨v1, vs1, d1, ds1, p1, q1, rfl, rfl, rfl, h1, r1⟩ := trodAll_cons r0
  obtain ⟨v2, vs2, d2, ds2, p2, q2, rfl, rfl, rfl, h2, r2⟩ := trodAll_cons r1
  obtain ⟨v3, vs3, d3, ds3, p3, q3, rfl, rfl, rfl, h3, r3⟩ := trodAll_cons r2
  obtain ⟨rfl, rfl, rfl⟩ := trodAll_nil r3
  obtain rfl : args = #[v0, v1, v2, v3] := by cases args; simp_all
  obtain ⟨rfl, rfl⟩ := trodVars_none hV
  have k0 := h0
  have lt0 : ∀ x ∈ p0, x.block < W.heap.size := by obtain ⟨m, hm⟩ := k0; exact DataW.trod_lt m _ _ _ hm
  obtain ⟨a0, z0, c0, rfl, w0⟩ := open_evs (hval 0 22 v0 rfl rfl) h0 (fun els sp hd => sized_slice hsz (j := 0) rfl (by rw [hd]; rfl) Try.underlying22)
  have k1 := h1
  have lt1 : ∀ x ∈ p1, x.block < W.heap.size := by obtain ⟨m, hm⟩ := k1; exact DataW.trod_lt m _ _ _ hm
  obtain ⟨a1, rfl, rfl, rfl, w1⟩ := open_int Try.underlying3 (hval 1 3 v1 rfl rfl) h1
  have k2 := h2
  have lt2 : ∀ x ∈ p2, x.block < W.heap.size := by obtain ⟨m, hm⟩ := k2; exact DataW.trod_lt m _ _ _ hm
  obtain ⟨a2, rfl, rfl, rfl, w2⟩ := open_int Try.underlying3 (hval 2 3 v2 rfl rfl) h2
  have k3 := h3
  have lt3 : ∀ x ∈ p3, x.block < W.heap.size := by obtain ⟨m, hm⟩ := k3; exact DataW.trod_lt m _ _ _ hm
  obtain ⟨a3, rfl, rfl, rfl, w3⟩ := open_int Try.underlying3 (hval 3 3 v3 rfl rfl) h3
  clear hA0 hval0
  refine (orderFront_walk a0 z0 c0 a1 a2 a3 W w0 (wf_i64 w1) (wf_i64 w2) (wf_i64 w3)).mono fun e W' ⟨he, bel⟩ => ?_
  subst he
  exact ⟨_, rfl, _, _, _, [], _, [], hW', trodAll_mk1 (shut_bool Try.underlying4 _), (trodAll_cons_mk (Below.trod frame_laid (by kernel_rfl) (of_decide_eq_true (by kernel_rfl)) k0 bel lt0) (trodAll_cons_mk (Below.trod frame_laid (by kernel_rfl) (of_decide_eq_true (by kernel_rfl)) k1 bel lt1) (trodAll_cons_mk (Below.trod frame_laid (by kernel_rfl) (of_decide_eq_true (by kernel_rfl)) k2 bel lt2) (trodAll_cons_mk (Below.trod frame_laid (by kernel_rfl) (of_decide_eq_true (by kernel_rfl)) k3 bel lt3) trodAll_mk0)))), rfl, bel.frame _, fun h => by cases h⟩

theorem orderFront_over : Rows.orderFrontRow.holds Try.pinned (OpenSpec.ofChange Rows.orderFrontSpec) :=
  OpenClaim.holds_of_wide 8 Try.f8 rfl rfl rfl rfl rfl rfl rfl ⟨rfl, rfl, rfl, rfl, rfl⟩ rfl rfl rfl rfl rfl (by kernel_rfl) Try.func8 (by kernel_rfl)
    (of_decide_eq_true (by kernel_rfl)) (by unfold Func.isWrapper; first | (rw [if_pos (by decide +kernel)]; kernel_rfl) | (rw [if_neg (by decide +kernel)]; exact ⟨rfl, rfl⟩))
    (fun os started H enc _ => orderFront_lifted os started H enc)

/-- The statement. -/
theorem orderFront_holds : Rows.OrderFrontSaid := orderFront_over

end Go.Proofs.Ytlphmkdlacnnoaa
