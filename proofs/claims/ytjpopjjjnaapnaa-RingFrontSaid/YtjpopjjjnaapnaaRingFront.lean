/- RingFront: the pairs of a trace are kept when events are appended. -/
import Derived.Test.YtjpopjjjnaapnaaRows
import Derived.Test.YtjpopjjjnaapnaaGrA
import Derived.Test.YtjpopjjjnaapnaaRgE
import Derived.Test.YtjpopjjjnaapnaaHasP
import Derived.Test.YtjpopjjjnaapnaaOpenE
namespace Go.Proofs.Ytjpopjjjnaapnaa
open Go.ChangeShapes Go.WideShapes Go.ChangeAt Go.RowKit

theorem graph_n (l : List Ev) (n : Nat) (hn : l.length = n) (a : Option Addr) (c : Nat) (w : World) (h : EvS w a l) (he : (played l).2.2 = 0) :
    Calls Try.prog 24 #[.slice a n c] w (GraphPost (grOut l) w) := by
  subst hn; exact graph_ok l a c w h he
theorem hasPr_w (p : List (Int × Int)) (n : Nat) (hn : p.length = n) (x y : Int) (a : Option Addr) (c : Nat) (w : World) (h : PrS w a p) :
    Calls Try.prog 18 #[.slice a n c, .agg #[.int .i64 x, .int .i64 y]] w fun e w' => e = .returned (.bool (hasB p (x, y))) ∧ Below w.heap.size w w' := by
  subst hn; exact hasPr_any p (x, y) a c w h
theorem mayB_is {l : List Ev} (h : mayB l = true) : (played l).2.2 = 0 := by
  obtain ⟨h1, h2⟩ := mayB_iff.1 h
  rw [played_small h1]; exact h2
set_option maxRecDepth 100000 in
set_option maxHeartbeats 8000000 in
theorem ringFront_walk (a : Option Addr) (z : List Ev) (c : Nat) (n : Int) (w : World) (h : EvS w a z ∧ z.length ≤ c ∧ z.length * 24 ≤ 140737488351232 ∧ ∀ e ∈ z, I64 e.k ∧ I64 e.t ∧ I64 e.o) (_ : I64 n) :
    Calls Try.prog 7 #[.slice a z.length c, .int .i64 n] w fun e w' => e = .returned (.bool true) ∧ Below w.heap.size w w' := by
  obtain ⟨h1, hc, h2, _⟩ := h
  have hbig := h1.big
  have q0 := Int.emod_nonneg n (show (z.length : Int) + 1 ≠ 0 by omega)
  have q1 := Int.emod_lt_of_pos n (show 0 < (z.length : Int) + 1 by omega)
  obtain ⟨k, hk⟩ := Int.eq_ofNat_of_zero_le q0
  have hkz : k ≤ z.length := by omega
  have HK := Lib.hid hk
  clear hk q0 q1
  go_enter Try.func7, Try.ntmps7
  go_wp2_with fail
  refine (ringed_any _).mono ?_
  rintro r w1 ⟨rfl, hb⟩
  replace h1 := h1.below hb
  go_wp2_with fail
  refine (may_any z _ _ _ h1).mono ?_
  rintro r w2 ⟨rfl, hk⟩
  replace h1 := h1.below hk
  replace hb := hb.trans (hk.mono hb.size)
  clear hk
  cases hm : mayB z
  · go_wp2
    go_ret
    exact ⟨rfl, hb⟩
  · have HP := Lib.hid (mayB_is hm)
    have HP2 := Lib.hid (mayB_is (mayB_take k hm))
    have HT := Lib.hid (show (z.take k).length = k by simp; omega)
    have HF := Lib.hid (fun (x : Int × Int) (hx : x ∈ grOut (z.take k)) => grOut_front hx)
    have hl1 := grOut_len z
    have hl2 := grOut_len (z.take k)
    have hkz2 : (k : Int) ≤ z.length := by omega
    have hkc : (k : Int) ≤ c := by omega
    clear hm
    go_wp2_with fail
    refine (rest_any n ((z.length : Int) + 1) _ (by omega) (by omega)).mono ?_
    rintro r w3 ⟨rfl, rfl⟩
    rw [HK.out]
    go_wp2_with fail
    refine (graph_ok z _ _ _ h1 HP.out).mono ?_
    rintro r w4 ⟨a4, c4, rfl, hP4, _, hk⟩
    replace h1 := (h1.below hk).take k
    replace hb := hb.trans (hk.mono hb.size)
    clear hk
    go_wp2_with fail
    refine (graph_n (z.take k) k HT.out _ _ _ h1 HP2.out).mono ?_
    rintro r w5 ⟨a5, c5, rfl, hP5, _, hk⟩
    replace hP4 := hP4.below hk
    replace hb := hb.trans (hk.mono hb.size)
    clear hk h1 HT HP HP2 HK
    generalize grOut (z.take k) = Q at *
    generalize grOut z = P at *
    have hI := Below.refl w5.heap.size w5
    go_wp2
    go_loopw [35] (fun i wr => ∃ j : Nat, j ≤ Q.length ∧ i = .int .i64 j ∧ Below w5.heap.size w5 wr) (fun i _ => Q.length - (intOf i).toNat)
    case atStart => exact ⟨0, Nat.zero_le _, rfl, hI⟩
    case round =>
      clear hI
      obtain ⟨j, hj, rfl, hj5⟩ := hrel
      by_cases hlt : j < Q.length
      · obtain ⟨b, o, rfl, d0, d1⟩ := (hP5.below hj5).at hlt
        have HX := Lib.hid (HF.out _ (List.getElem_mem hlt))
        generalize Q[j] = x at *
        obtain ⟨A, B⟩ := x
        simp only at d0 d1
        have hX := Has.new wr (prC (A, B)) 31
        have hb3 := hj5.alloc hj5.size (.cells (prC (A, B)) 31)
        have hP6 := hP4.below hb3
        clear hj5
        go_upto_region 11 with fail
        clear d0 d1
        generalize wr.alloc (.cells (prC (A, B)) 31) = w6 at *
        obtain ⟨x0, x1⟩ : w6.cell? ⟨wr.heap.size, 0, none⟩ = some (.int .i64 A) ∧ w6.cell? ⟨wr.heap.size, 1, none⟩ = some (.int .i64 B) := ⟨hX.cell rfl, hX.cell rfl⟩
        go_wp2_with fail
        refine (hasPr_w P _ rfl A B _ _ _ hP6).mono ?_
        rintro r w7 ⟨rfl, hk⟩
        rw [show hasB P (A, B) = true by simp only [hasB, decide_eq_true_eq]; exact HX.out]
        have hb7 := hb3.trans (hk.mono hb3.size)
        clear hk hX x0 x1 hb3 hP6
        go_wp2
        go_roundw
        case rel => exact ⟨j + 1, by omega, by go_num, hb7⟩
        case measure => (simp [intOf]; try omega)
      · obtain rfl : j = Q.length := by omega
        have hb7 := hb.trans (hj5.mono hb.size)
        clear hj5 hb
        go_wp2
        go_ret
        exact ⟨rfl, hb7⟩
/-! The frame of the law RingFront, by program. -/
set_option maxRecDepth 100000 in
theorem ringFront_lifted (os : Os) (started : os.Started) (H : Type) (enc : TypeId × Value → H) :
    ReturnsInHanded {} Try.checked os 7 .any (Rows.ringFrontSpec.pre6 enc Try.prog Try.f7 Rows.ringFrontRow.domain false) (Rows.ringFrontSpec.post enc Try.prog Try.f7 false true false false) := by
  refine returnsInHanded_of_change_shaped (C := Try.checked) frame_own started (by kernel_rfl) Try.func7
    (ChangeSpec.witness6 (enc := enc) (C := Try.checked) false ⟨#[], #[.slice none 0 0, .int .i64 0], []⟩ 8 (by kernel_rfl) (by kernel_rfl) (by kernel_rfl) (by kernel_rfl)) ?_
  intro W base args ds gs before hval0 hW hcnd hsz hshaped hroom
  clear hcnd hshaped
  have hval : ∀ (j : Nat) t v, Try.f7.params[j]? = some t → args[j]? = some v → Value.okWide Try.prog W .any base t v := hval0
  have hW' := hW
  obtain ⟨p, q, hA0, hV, rfl, hfz, hnd⟩ := hW
  have hA : DataW.TrodAll enc Try.prog W 0 (fun _ => true) true Try.f7.params.toList args.toList ds p := hA0
  rw [Try.params7] at hA hval
  obtain ⟨v0, vs0, d0, ds0, p0, q0, hargs, rfl, rfl, h0, r0⟩ := trodAll_cons hA
  obtain ⟨v1, vs1, d1, ds1, p1, q1, rfl, rfl, rfl, h1, r1⟩ := trodAll_cons r0
  obtain ⟨rfl, rfl, rfl⟩ := trodAll_nil r1
  obtain rfl : args = #[v0, v1] := by cases args; simp_all
  obtain ⟨rfl, rfl⟩ := trodVars_none hV
  have k0 := h0
  have lt0 : ∀ x ∈ p0, x.block < W.heap.size := by obtain ⟨m, hm⟩ := k0; exact DataW.trod_lt m _ _ _ hm
  obtain ⟨a0, z0, c0, rfl, w0⟩ := open_evs (hval 0 37 v0 rfl rfl) h0 (fun els sp hd => sized_slice hsz (j := 0) rfl (by rw [hd]; rfl) Try.underlying37)
  have k1 := h1
  have lt1 : ∀ x ∈ p1, x.block < W.heap.size := by obtain ⟨m, hm⟩ := k1; exact DataW.trod_lt m _ _ _ hm
  obtain ⟨a1, rfl, rfl, rfl, w1⟩ := open_int Try.underlying3 (hval 1 3 v1 rfl rfl) h1
  clear hA0 hval0
  refine (ringFront_walk a0 z0 c0 a1 W w0 (wf_i64 w1)).mono fun e W' ⟨he, bel⟩ => ?_
  subst he
  exact ⟨_, rfl, _, _, _, [], _, [], hW', trodAll_mk1 (shut_bool Try.underlying4 _), (trodAll_cons_mk (Below.trod frame_laid (by kernel_rfl) (of_decide_eq_true (by kernel_rfl)) k0 bel lt0) (trodAll_cons_mk (Below.trod frame_laid (by kernel_rfl) (of_decide_eq_true (by kernel_rfl)) k1 bel lt1) trodAll_mk0)), rfl, bel.frame _, fun h => by cases h⟩

theorem ringFront_over : Rows.ringFrontRow.holds Try.pinned (OpenSpec.ofChange Rows.ringFrontSpec) :=
  OpenClaim.holds_of_wide 7 Try.f7 rfl rfl rfl rfl rfl rfl rfl ⟨rfl, rfl, rfl, rfl, rfl⟩ rfl rfl rfl rfl rfl (by kernel_rfl) Try.func7 (by kernel_rfl)
    (of_decide_eq_true (by kernel_rfl)) (by unfold Func.isWrapper; first | (rw [if_pos (by decide +kernel)]; kernel_rfl) | (rw [if_neg (by decide +kernel)]; exact ⟨rfl, rfl⟩))
    (fun os started H enc _ => ringFront_lifted os started H enc)

/-- The statement. -/
theorem ringFront_holds : Rows.RingFrontSaid := ringFront_over

end Go.Proofs.Ytjpopjjjnaapnaa
