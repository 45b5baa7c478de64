/- StampOwn: each event counts all events of its own thread up to itself: for every trace. -/
import Derived.Test.YtlphmkdlacnnoaaRows
import Derived.Test.YtlphmkdlacnnoaaStmE
import Derived.Test.YtlphmkdlacnnoaaOpenE
namespace Go.Proofs.Ytlphmkdlacnnoaa
open Go.ChangeShapes Go.WideShapes Go.ChangeAt Go.RowKit

theorem stampOwn_no (a : Option Addr) (z : List Ev) (c : Nat) (w : World) (h : EvS w a z) (he : (played z).2.2 ≠ 0) :
    Calls Try.prog 9 #[.slice a z.length c] w fun e w' => e = .returned (.bool true) ∧ Below w.heap.size w w' := by
  have e2 : ((played z).2.2 != 0) = true := by simpa using he
  have hm : mayB z = false := by simpa [mayB] using he
  go_enter Try.func9, Try.ntmps9
  go_wp2_with fail
  refine (stamped_any _).mono ?_
  rintro r w1 ⟨rfl, hb⟩
  go_wp2_with fail
  refine (stamps_err z a c _ (h.below hb) he).mono ?_
  rintro r w2 ⟨rfl, hk⟩
  replace hb := hb.trans (hk.mono hb.size)
  clear hk
  go_wp2_with fail
  refine (may_any z a c _ (h.below hb)).mono ?_
  rintro r w3 ⟨rfl, hk⟩
  rw [hm]
  go_wp2
  go_ret
  exact ⟨rfl, hb.trans (hk.mono hb.size)⟩

set_option maxRecDepth 100000 in
set_option maxHeartbeats 8000000 in
theorem stampOwn_ok (a : Option Addr) (z : List Ev) (c : Nat) (w : World) (h : EvS w a z) (he : (played z).2.2 = 0) :
    Calls Try.prog 9 #[.slice a z.length c] w fun e w' => e = .returned (.bool true) ∧ Below w.heap.size w w' := by
  have hbig := h.big
  have hl80 := (played_evs he).1
  have HE := Lib.hid he
  clear he
  go_enter Try.func9, Try.ntmps9
  go_wp2_with fail
  refine (stamped_any _).mono ?_
  rintro r w1 ⟨rfl, hb⟩
  go_wp2_with fail
  refine (stamps_ok z a c _ (h.below hb) HE.out).mono ?_
  rintro r w2 ⟨v, rfl, hown, hk⟩
  have hex : ∃ a2 c2, v = .slice a2 z.length c2 ∧ CkS w2 a2 (stampL z z.length) := by
    obtain ⟨a, c, h1, h2, _⟩ := ckS_own hown
    rw [stampL_length] at h1
    exact ⟨a, c, h1, h2⟩
  obtain ⟨a2, c2, rfl, hC⟩ := hex
  have hb2 := hb.trans (hk.mono hb.size)
  clear hk hb hown
  replace h := h.below hb2
  have hS0 := Has.new w2 (clkC fun τ : Nat => cntT z τ 0) 44
  have hb3 := (Below.refl w2.heap.size w2).alloc (Nat.le_refl _) (.cells (clkC fun τ : Nat => cntT z τ 0) 44)
  go_wp2
  go_loopw [33] (fun i wr => ∃ k : Nat, k ≤ z.length ∧ i = .int .i64 k ∧ Has wr w2.heap.size (clkC fun τ : Nat => cntT z τ k) 44 ∧ Below w2.heap.size w2 wr) (fun i _ => z.length - (intOf i).toNat)
  case atStart => exact ⟨0, Nat.zero_le _, rfl, hS0, hb3⟩
  case round =>
    clear hS0 hb3
    obtain ⟨k, hk, rfl, hM, hb3⟩ := hrel
    by_cases hlt : k < z.length
    · obtain ⟨b', o', rfl, d0, d1, d2⟩ := (h.below hb3).at hlt
      obtain ⟨t1, t2, _, _⟩ := ev_at HE.out hlt
      have hx : evAt z k = z[k] := by simp [evAt, hlt]
      have ho := stamp_own HE.out hlt
      have hm := fun τ (_ : τ < 6) => stamp_many HE.out hlt τ
      have hw := cle_iff.2 hm
      have hcs : ∀ τ : Nat, cntT z τ (k + 1) = if (evAt z k).t = τ then cntT z τ k + 1 else cntT z τ k := fun _ => rfl
      have hcl := cntT_le z (evAt z k).t k
      have hcn := cntT_nn z (evAt z k).t k
      rw [hx] at t1 t2 ho hcl hcn
      simp only [hx] at hcs
      clear hx hm
      generalize z[k] = x at *
      obtain ⟨K, t, o⟩ := x
      simp only at t1 t2 ho d0 d1 d2 hcl hcn hcs
      obtain ⟨t, rfl⟩ := Int.eq_ofNat_of_zero_le t1
      have t6 : t < 6 := by omega
      rw [show ((t : Int)).toNat = t by simp] at ho
      have ho2 : cntT z t (k + 1) = cntT z t k + 1 := by rw [hcs t, if_pos rfl]
      have HCS := Lib.hid hcs
      clear hcs
      obtain ⟨g, rfl⟩ := hC.some (show 0 < z.length by omega)
      have m0 := hM.cell (clkC_get _ t t6)
      have mf := hM.free t
      have hsz := hM.lt
      have i0 : (0 : Int) ≤ t := by omega
      have i6 : (t : Int) < 6 := by omega
      have k0 : (0 : Int) ≤ k := by omega
      have k1 : (k : Int) < z.length := by omega
      have hwr := IntWalk.i64_in (cntT z t k + 1) (by omega)
      have hMx := (hM.alloc (.cells (evC ⟨K, t, o⟩) 30)).setCell t (.int .i64 (cntT z t k + 1))
      rw [clkC_set _ t t6] at hMx
      replace hMx := hMx.to (ds := clkC fun τ : Nat => cntT z τ (k + 1)) (clkC_congr fun i hi => by
        rw [HCS.out i]
        by_cases e : i = t
        · subst e; simp
        · rw [if_neg e, if_neg (by omega)])
      have hb4 := (hb3.alloc hb3.size (.cells (evC ⟨K, t, o⟩) 30)).setCell (p := ⟨w2.heap.size, t, none⟩) (Nat.le_refl _) (.int .i64 (cntT z t k + 1))
      rw [World.setCell_alloc_past _ _ _ _ hsz] at hMx hb4
      have hN := Has.new (wr.setCell ⟨w2.heap.size, t, none⟩ (.int .i64 (cntT z t k + 1))) (evC ⟨K, t, o⟩) 30
      rw [World.size_setCell] at hN
      have HO := Lib.hid (ho.trans ho2)
      have HO2 := Lib.hid ho2
      clear ho ho2 hcl hcn
      go_wp2_with fail
      generalize hW : ((wr.setCell ⟨w2.heap.size, t, none⟩ (.int .i64 (cntT z t k + 1))).alloc (.cells (evC ⟨K, t, o⟩) 30)) = w5 at *
      clear hW hwr m0 mf hM hb3 d0 d1 d2
      have HW := Lib.hid hw
      clear hw
      have hb5 := hb4.drew
      have hM5 := hMx.drew
      have hN5 := hN.drew
      have e5 : SixAt w5.drew g (k * 6) (stampOf z k) := (hC.below hb5).sixAt hlt
      have e6 : w5.drew.cell? ⟨g, k * 6 + t, none⟩ = some (.int .i64 (cntT z t (k + 1))) := by rw [(hC.below hb5).oneAt hlt t6, HO.out, HO2.out]
      have e7 : w5.drew.cell? ⟨w2.heap.size, t, none⟩ = some (.int .i64 (cntT z t (k + 1))) := hM5.cell (clkC_get (fun τ : Nat => cntT z τ (k + 1)) t t6)
      have e8 := hM5.clk
      have e9 : w5.drew.cell? ⟨wr.heap.size, 1, none⟩ = some (.int .i64 (t : Int)) := hN5.cell rfl
      go_region_held3 (fun W => Below w5.drew.heap.size w5.drew W ∧ W.cell? ⟨wr.heap.size, 1, none⟩ = some (.int .i64 (t : Int)) ∧ W.cell? ⟨g, k * 6 + t, none⟩ = some (.int .i64 (cntT z t (k + 1))) ∧ W.cell? ⟨w2.heap.size, t, none⟩ = some (.int .i64 (cntT z t (k + 1))) ∧ SixAt W g (k * 6) (stampOf z k) ∧ BoxAt W w2.heap.size (fun τ : Nat => cntT z τ (k + 1)))
        (first | exact ⟨Below.refl _ _, e9, e6, e7, e5, e8⟩ | exact ⟨hk6, (hN5.below hk6 hN5.lt).cell rfl, by rw [(hC.below hb6).oneAt hlt t6, HO.out, HO2.out], (hM5.below hk6 hM5.lt).cell (clkC_get (fun τ : Nat => cntT z τ (k + 1)) t t6), (hC.below hb6).sixAt hlt, (hM5.below hk6 hM5.lt).clk⟩)
        (first | (go_at_call 23; refine (within_any (stampOf z k) (fun τ : Nat => cntT z τ (k + 1)) _).mono ?_; rintro r w6 ⟨rfl, hk6⟩; have hb6 := hb5.trans (hk6.mono hb5.size)))
      all_goals
        rename_i hS
        obtain ⟨hk7, _⟩ := hS
        rw [HW.out]
        clear e5 e6 e7 e8 e9
        go_wp2
        go_roundw
        case rel => exact ⟨k + 1, by omega, by go_num, hM5.below hk7 hM5.lt, hb5.trans (hk7.mono hb5.size)⟩
        case measure => (simp [intOf]; try omega)
    · obtain rfl : k = z.length := by omega
      go_wp2
      go_ret
      exact ⟨rfl, hb2.trans (hb3.mono hb2.size)⟩

theorem stampOwn_walk (a : Option Addr) (z : List Ev) (c : Nat) (w : World) (hf : EvS w a z ∧ z.length ≤ c ∧ z.length * 24 ≤ 140737488351232 ∧ ∀ e ∈ z, I64 e.k ∧ I64 e.t ∧ I64 e.o) :
    Calls Try.prog 9 #[.slice a z.length c] w fun e w' => e = .returned (.bool true) ∧ Below w.heap.size w w' := by
  by_cases hm : (played z).2.2 = 0
  · exact stampOwn_ok a z c w hf.1 hm
  · exact stampOwn_no a z c w hf.1 hm
/-! The frame of the law StampOwn, by program. -/
set_option maxRecDepth 100000 in
theorem stampOwn_lifted (os : Os) (started : os.Started) (H : Type) (enc : TypeId × Value → H) :
    ReturnsInHanded {} Try.checked os 9 .any (Rows.stampOwnSpec.pre6 enc Try.prog Try.f9 Rows.stampOwnRow.domain false) (Rows.stampOwnSpec.post enc Try.prog Try.f9 false true false false) := by
  refine returnsInHanded_of_change_shaped (C := Try.checked) frame_own started (by kernel_rfl) Try.func9
    (ChangeSpec.witness6 (enc := enc) (C := Try.checked) false ⟨#[], #[.slice none 0 0], []⟩ 8 (by kernel_rfl) (by kernel_rfl) (by kernel_rfl) (by kernel_rfl)) ?_
  intro W base args ds gs before hval0 hW hcnd hsz hshaped hroom
  clear hcnd hshaped
  have hval : ∀ (j : Nat) t v, Try.f9.params[j]? = some t → args[j]? = some v → Value.okWide Try.prog W .any base t v := hval0
  have hW' := hW
  obtain ⟨p, q, hA0, hV, rfl, hfz, hnd⟩ := hW
  have hA : DataW.TrodAll enc Try.prog W 0 (fun _ => true) true Try.f9.params.toList args.toList ds p := hA0
  rw [Try.params9] at hA hval
  obtain ⟨v0, vs0, d0, ds0, p0, q0, hargs, rfl, rfl, h0, r0⟩ := trodAll_cons hA
  obtain ⟨rfl, rfl, rfl⟩ := trodAll_nil r0
  obtain rfl : args = #[v0] := by cases args; simp_all
  obtain ⟨rfl, rfl⟩ := trodVars_none hV
  have k0 := h0
  have lt0 : ∀ x ∈ p0, x.block < W.heap.size := by obtain ⟨m, hm⟩ := k0; exact DataW.trod_lt m _ _ _ hm
  obtain ⟨a0, z0, c0, rfl, w0⟩ := open_evs (hval 0 22 v0 rfl rfl) h0 (fun els sp hd => sized_slice hsz (j := 0) rfl (by rw [hd]; rfl) Try.underlying22)
  clear hA0 hval0
  refine (stampOwn_walk a0 z0 c0 W w0).mono fun e W' ⟨he, bel⟩ => ?_
  subst he
  exact ⟨_, rfl, _, _, _, [], _, [], hW', trodAll_mk1 (shut_bool Try.underlying4 _), (trodAll_cons_mk (Below.trod frame_laid (by kernel_rfl) (of_decide_eq_true (by kernel_rfl)) k0 bel lt0) trodAll_mk0), rfl, bel.frame _, fun h => by cases h⟩

theorem stampOwn_over : Rows.stampOwnRow.holds Try.pinned (OpenSpec.ofChange Rows.stampOwnSpec) :=
  OpenClaim.holds_of_wide 9 Try.f9 rfl rfl rfl rfl rfl rfl rfl ⟨rfl, rfl, rfl, rfl, rfl⟩ rfl rfl rfl rfl rfl (by kernel_rfl) Try.func9 (by kernel_rfl)
    (of_decide_eq_true (by kernel_rfl)) (by unfold Func.isWrapper; first | (rw [if_pos (by decide +kernel)]; kernel_rfl) | (rw [if_neg (by decide +kernel)]; exact ⟨rfl, rfl⟩))
    (fun os started H enc _ => stampOwn_lifted os started H enc)

/-- The statement. -/
theorem stampOwn_holds : Rows.StampOwnSaid := stampOwn_over

end Go.Proofs.Ytlphmkdlacnnoaa
