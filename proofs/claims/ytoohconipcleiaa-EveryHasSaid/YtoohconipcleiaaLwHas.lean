/- EveryHas: the end of every complete execution is one of Ends: for every program and every slice of picks. -/
import Derived.Test.YtoohconipcleiaaRows
import Derived.Test.YtoohconipcleiaaEvI
import Derived.Test.YtoohconipcleiaaEvH
import Derived.Test.YtoohconipcleiaaMF
import Derived.Test.YtoohconipcleiaaMI
import Derived.Deep.DeepCutAuto
namespace Go.Proofs.Ytoohconipcleiaa
open Go.ChangeShapes Go.WideShapes Go.ChangeAt Go.RowKit

theorem zero_num : NumOk PS.zero := fun i => by unfold I64; simp [PS.zero]
set_option maxRecDepth 100000 in
set_option maxHeartbeats 8000000 in
theorem everyHas_walk (a : Option Addr) (p : List (List Ev)) (c : Nat) (ap : Option Addr) (l : List Int) (cp : Nat) (w : World) (hp : PgS w a p ∧ (p.length ≤ c ∧ p.length * 24 ≤ 140737488351232) ∧ ∀ z ∈ p, ∀ e ∈ z, I64 e.k ∧ I64 e.t ∧ I64 e.o) (hl : IntS w ap l ∧ l.length ≤ cp ∧ l.length * 8 ≤ 140737488351232 ∧ ∀ n ∈ l, I64 n) :
    Calls Try.prog 6 #[.slice a p.length c, .slice ap l.length cp] w fun e w' => e = .returned (.bool true) ∧ Below w.heap.size w w' := by
  have h := hp.1
  have hq := hl.1
  clear hp hl
  go_enter Try.func6, Try.ntmps6
  go_wp2_with fail
  refine (everied_any _).mono ?_
  rintro r w1 ⟨rfl, hb1⟩
  go_wp2_with fail
  refine (ends_any p a c _ (h.below hb1)).mono ?_
  rintro r w2 ⟨hk2, hE⟩
  have hb2 := hb1.trans (hk2.mono hb1.size)
  rcases hE with ⟨h0, rfl⟩ | ⟨_, all, aE, cE, hA, rfl, hES, hnum⟩
  · have e1 : (chkE p != 0) = true := bne_iff_ne.2 h0
    have e2 : (chkE p == 0) = false := beq_eq_false_iff_ne.2 h0
    have e3 : decide (chkE p = 0) = false := decide_eq_false h0
    clear h0 hk2 hb1
    generalize chkE p = C at *
    go_wp2
    go_ret
    exact ⟨rfl, hb2⟩
  · have hne := hA.nonempty
    have hpos : 0 < all.length := List.length_pos_iff.2 hne
    have p1 : decide (0 < all.length) = true := decide_eq_true hpos
    have p2 : decide ((0 : Int) < all.length) = true := decide_eq_true (by omega)
    have p3 : decide ((all.length : Int) > 0) = true := p2
    have hrun := run_any p l a ap c cp w2 (h.below hb2) (hq.below hb2)
    have HS := Lib.hid (endR_size p l)
    have H1 := Lib.hid (endR_one p l)
    have hz20 := endC_size PS.zero false false
    go_wp2_with fail
    refine hrun.mono ?_
    rintro r w3 ⟨a3, c3, _, rfl, _, hk3⟩
    have hb3 := hb2.trans (hk3.mono hb2.size)
    have hES3 := hES.below hk3
    have hY : Hid (endR p l = endR p l) := Lib.hid rfl
    have hER : Hid (errR p l.length = 0 → endR p l = enE (enS p (runP p l).1) ∧ NumOk (runP p l).1 ∧ (lastB p (runP p l).1 = true → inE all (enS p (runP p l).1) = true)) := Lib.hid fun h0 => by
      have hX : chkP p = 0 := by
        unfold errR at h0
        split at h0
        · assumption
        · exact h0
      have hl100 : l.length ≤ 100 := by
        unfold errR at h0
        rw [if_pos hX] at h0
        split at h0
        · cases h0
        · omega
      refine ⟨?_, (runP_VB (chkP_ok hX) l).ok (by omega), hA.has l⟩
      unfold endR
      rw [if_pos h0]
      rfl
    clear hrun hES hk3 hb2 hb1 hk2 hY
    obtain ⟨Y, hYe⟩ : ∃ Y, endR p l = Y := ⟨_, rfl⟩
    rw [hYe] at HS H1 hER ⊢
    clear hYe
    go_upto_region 7 with (refine wpList_store_row rfl endT _ _ rfl w3.heap.size Y rfl rfl endT _ (Has.new w3 (endC PS.zero false false) endT).out (by rw [HS.out]; rfl) (by rw [HS.out, hz20]) H1.out ?_)
    generalize hWx : World.setRow _ _ _ = W4
    have hN4 : Has W4 w3.heap.size Y endT := by rw [← hWx]; exact (Has.new w3 (endC PS.zero false false) endT).setRow
    have hk4 : Below w3.heap.size w3 W4 := by rw [← hWx]; exact below_setRow ((Below.refl _ _).alloc (Nat.le_refl _) _) (Nat.le_refl _)
    have hb4 := hb3.trans (hk4.mono hb3.size)
    have hES4 := hES3.below hk4
    clear hWx hk4 hES3 hb3
    by_cases he : errR p l.length = 0
    · rw [he]
      obtain ⟨rfl, hnm, hin⟩ := hER.out he
      have hE18 : (enE (enS p (runP p l).1))[18]? = some (.bool (doneB p (runP p l).1)) := endC_get _ _ _ (by omega)
      have hE19 : (enE (enS p (runP p l).1))[19]? = some (.bool (stuckB p (runP p l).1)) := endC_get _ _ _ (by omega)
      have hlast : lastB p (runP p l).1 = (doneB p (runP p l).1 || stuckB p (runP p l).1) := rfl
      rw [hlast] at hin
      have hcon := hasE_any all (enS p (runP p l).1) aE cE W4 hES4 hnum hnm
      have g18 := hN4.cell hE18
      have g19 := hN4.cell hE19
      generalize doneB p (runP p l).1 = D at *
      generalize stuckB p (runP p l).1 = K at *
      generalize inE all (enS p (runP p l).1) = I at *
      generalize enE (enS p (runP p l).1) = Z at *
      clear hER hlast hE18 hE19 he
      have h20 := HS.out
      cases D
      · cases K
        · clear hin hcon
          go_wp2
          go_ret
          exact ⟨rfl, hb4⟩
        · rw [hin rfl] at hcon
          go_wp2_with (refine wpList_yes rfl (fun K hK => ?_); refine wp_load_row endT _ rfl w3.heap.size rfl endT Z (0, 0) _ hN4.out Try.underlying29 rfl (by rw [h20]; rfl) ?_; refine hK _ _ ?_; clear hK K)
          refine hcon.mono ?_
          rintro r w5 ⟨rfl, hk5⟩
          have hb5 := hb4.trans (hk5.mono hb4.size)
          clear hcon hin
          go_wp2
          go_ret
          exact ⟨rfl, hb5⟩
      · rw [hin rfl] at hcon
        go_wp2_with (refine wpList_yes rfl (fun K hK => ?_); refine wp_load_row endT _ rfl w3.heap.size rfl endT Z (0, 0) _ hN4.out Try.underlying29 rfl (by rw [h20]; rfl) ?_; refine hK _ _ ?_; clear hK K)
        refine hcon.mono ?_
        rintro r w5 ⟨rfl, hk5⟩
        have hb5 := hb4.trans (hk5.mono hb4.size)
        clear hcon hin
        go_wp2
        go_ret
        exact ⟨rfl, hb5⟩
    · have e1 : (errR p l.length != 0) = true := bne_iff_ne.2 he
      have e2 : (errR p l.length == 0) = false := beq_eq_false_iff_ne.2 he
      have e3 : decide (errR p l.length = 0) = false := decide_eq_false he
      clear hER he
      generalize errR p l.length = C at *
      go_wp2
      go_ret
      exact ⟨rfl, hb4⟩

/-! The frame of the law EveryHas, by program. -/
set_option maxRecDepth 100000 in
theorem everyHas_lifted (os : Os) (started : os.Started) (H : Type) (enc : TypeId × Value → H) :
    ReturnsInHanded {} Try.checked os 6 .any (Rows.everyHasSpec.pre6 enc Try.prog Try.f6 Rows.everyHasRow.domain false) (Rows.everyHasSpec.post enc Try.prog Try.f6 false true false false) := by
  refine returnsInHanded_of_change_shaped (C := Try.checked) frame_own started (by kernel_rfl) Try.func6
    (ChangeSpec.witness6 (enc := enc) (C := Try.checked) false ⟨#[], #[.slice none 0 0, .slice none 0 0], []⟩ 8 (by kernel_rfl) (by kernel_rfl) (by kernel_rfl) (by kernel_rfl)) ?_
  intro W base args ds gs before hval0 hW hcnd hsz hshaped hroom
  clear hcnd hshaped
  have hval : ∀ (j : Nat) t v, Try.f6.params[j]? = some t → args[j]? = some v → Value.okWide Try.prog W .any base t v := hval0
  have hW' := hW
  obtain ⟨p, q, hA0, hV, rfl, hfz, hnd⟩ := hW
  have hA : DataW.TrodAll enc Try.prog W 0 (fun _ => true) true Try.f6.params.toList args.toList ds p := hA0
  rw [Try.params6] at hA hval
  obtain ⟨v0, vs0, d0, ds0, p0, q0, hargs, rfl, rfl, h0, r0⟩ := trodAll_cons hA
  obtain ⟨v1, vs1, d1, ds1, p1, q1, rfl, rfl, rfl, h1, r1⟩ := trodAll_cons r0
  obtain ⟨rfl, rfl, rfl⟩ := trodAll_nil r1
  obtain rfl : args = #[v0, v1] := by cases args; simp_all
  obtain ⟨rfl, rfl⟩ := trodVars_none hV
  have k0 := h0
  have lt0 : ∀ x ∈ p0, x.block < W.heap.size := by obtain ⟨m, hm⟩ := k0; exact DataW.trod_lt m _ _ _ hm
  obtain ⟨a0, z0, c0, rfl, w0⟩ := open_prog (hval 0 22 v0 rfl rfl) h0 (fun n hn => of_decide_eq_true (List.all_eq_true.1 hsz _ (DataW.weights_mem_each (j := 0) rfl rfl n hn)))
  have k1 := h1
  have lt1 : ∀ x ∈ p1, x.block < W.heap.size := by obtain ⟨m, hm⟩ := k1; exact DataW.trod_lt m _ _ _ hm
  obtain ⟨a1, z1, c1, rfl, w1⟩ := open_ints (hval 1 23 v1 rfl rfl) h1 (fun els sp hd => sized_slice hsz (j := 1) rfl (by rw [hd]; rfl) Try.underlying23)
  clear hA0 hval0
  refine (everyHas_walk a0 z0 c0 a1 z1 c1 W w0 w1).mono fun e W' ⟨he, bel⟩ => ?_
  subst he
  exact ⟨_, rfl, _, _, _, [], _, [], hW', trodAll_mk1 (shut_bool Try.underlying4 _), (trodAll_cons_mk (Below.trod frame_laid (by kernel_rfl) (of_decide_eq_true (by kernel_rfl)) k0 bel lt0) (trodAll_cons_mk (Below.trod frame_laid (by kernel_rfl) (of_decide_eq_true (by kernel_rfl)) k1 bel lt1) trodAll_mk0)), rfl, bel.frame _, fun h => by cases h⟩

theorem everyHas_over : Rows.everyHasRow.holds Try.pinned (OpenSpec.ofChange Rows.everyHasSpec) :=
  OpenClaim.holds_of_wide 6 Try.f6 rfl rfl rfl rfl rfl rfl rfl ⟨rfl, rfl, rfl, rfl, rfl⟩ rfl rfl rfl rfl rfl (by kernel_rfl) Try.func6 (by kernel_rfl)
    (of_decide_eq_true (by kernel_rfl)) (by unfold Func.isWrapper; first | (rw [if_pos (by decide +kernel)]; kernel_rfl) | (rw [if_neg (by decide +kernel)]; exact ⟨rfl, rfl⟩))
    (fun os started H enc _ => everyHas_lifted os started H enc)

/-- The statement. -/
theorem everyHas_holds : Rows.EveryHasSaid := everyHas_over

end Go.Proofs.Ytoohconipcleiaa
