/- EveryOne: a single thread has one end and no race: for every slice of operations. -/
import Derived.Test.YtoohconipcleiaaRows
import Derived.Test.YtoohconipcleiaaMY
import Derived.Test.YtoohconipcleiaaEvR
import Derived.Test.YtoohconipcleiaaNG
import Derived.Test.YtoohconipcleiaaPgV
import Derived.Test.YtoohconipcleiaaOne
import Derived.Test.YtoohconipcleiaaMI
import Derived.Test.YtoohconipcleiaaOpenO
namespace Go.Proofs.Ytoohconipcleiaa
open Go.ChangeShapes Go.WideShapes Go.ChangeAt Go.RowKit

theorem runP_zero (z : List Ev) (picks : List Int) : ∀ e ∈ (runP [z] picks).2, e.t = 0 := by
  refine snoc_rec (C := fun picks => ∀ e ∈ (runP [z] picks).2, e.t = 0) (fun e h => by cases h) ?_ picks
  intro picks t ih
  rw [runP_snoc]
  cases hc : canB [z] (runP [z] picks).1 t
  · rw [pickP_no hc]; exact ih
  · rw [pickP_yes hc]
    intro e he
    rcases List.mem_append.1 he with h | h
    · exact ih e h
    · have h1 := nextB_iff.1 (canB_next hc)
      simp at h1
      have ht : t.toNat = 0 := by omega
      unfold stepP at h
      have := doOp_thread (Option.mem_toList.1 h)
      rw [this, ht]; rfl
theorem one_calm (z : List Ev) (picks : List Int) : raceL (runP [z] picks).2 = [] := raceL_one (runP_zero z picks)
theorem one_last {z : List Ev} (hp : OkP [z]) : lastB [z] (runP [z] (List.replicate z.length 0)).1 = true := by
  obtain ⟨h1, h2⟩ := one_end hp
  unfold lastB
  rw [h1, h2]
  cases (oneF z).2 <;> rfl
set_option maxRecDepth 100000 in
set_option maxHeartbeats 8000000 in
theorem everyOne_walk (a : Option Addr) (z : List Ev) (c : Nat) (w : World) (hf : EvS w a z ∧ z.length ≤ c ∧ z.length * 24 ≤ 140737488351232 ∧ ∀ e ∈ z, I64 e.k ∧ I64 e.t ∧ I64 e.o) :
    Calls Try.prog 12 #[.slice a z.length c] w fun e w' => e = .returned (.bool true) ∧ Below w.heap.size w w' := by
  obtain ⟨h, _, _, hI⟩ := hf
  clear hI
  go_enter Try.func12, Try.ntmps12
  go_wp2_with fail
  refine (everied_any _).mono ?_
  rintro r w1 ⟨rfl, hb1⟩
  have hE1 := h.below hb1
  clear h
  go_upto_region 4 with fail
  generalize hW : World.alloc _ _ = W
  have hP : PgS W (some ⟨w1.heap.size, 0, none⟩) [z] := by
    rw [← hW]
    exact pgS_one (c := c) (T := 38) (Has.new w1 _ _) (hE1.below ((Below.refl _ _).alloc (Nat.le_refl _) _))
  have hk : Below w.heap.size w W := by rw [← hW]; exact hb1.alloc hb1.size _
  clear hW hE1 hb1
  have hends := ends_any [z] (some ⟨w1.heap.size, 0, none⟩) 1 W hP
  have hraces := fun (w3 : World) (h3 : Below W.heap.size W w3) => races_any [z] (some ⟨w1.heap.size, 0, none⟩) 1 w3 (hP.below h3)
  have hrun := fun (w3 : World) (h3 : Below W.heap.size W w3) (ap : Option Addr) (cp : Nat) (hq : IntS w3 ap (List.replicate z.length 0)) => run_one z z.length rfl (some ⟨w1.heap.size, 0, none⟩) ap 1 cp w3 (hP.below h3) hq
  rw [show ([z] : List (List Ev)).length = 1 from rfl] at hends hraces
  go_wp2_with fail
  refine hends.mono ?_
  rintro r w2 ⟨hb2, hE⟩
  have hk2 := hk.trans (hb2.mono hk.size)
  have hra := hraces w2 hb2
  have hrn := fun (w3 : World) (h3 : Below w2.heap.size w2 w3) => hrun w3 (hb2.trans (h3.mono hb2.size))
  clear hends hraces hrun hk hP hb2
  rcases hE with ⟨h0, rfl⟩ | ⟨hch, all, aE, cE, hA, rfl, hES, hnum⟩
  · go_wp2_with fail
    refine hra.mono ?_
    rintro r w3 ⟨hb3, hR⟩
    have hk3 := hk2.trans (hb3.mono hk2.size)
    rcases hR with ⟨_, rfl⟩ | ⟨hce, _⟩
    · have e1 : (chkE [z] != 0) = true := bne_iff_ne.2 h0
      have e2 : (chkE [z] == 0) = false := beq_eq_false_iff_ne.2 h0
      have e3 : decide (chkE [z] = 0) = false := decide_eq_false h0
      have e4 : (chkE [z] == chkE [z]) = true := beq_self_eq_true _
      clear h0 hra hrn
      generalize chkE [z] = C at *
      go_wp2
      go_ret
      exact ⟨rfl, hk3⟩
    · exact absurd hce h0
  · go_wp2_with fail
    refine hra.mono ?_
    rintro r w3 ⟨hb3, hR⟩
    have hk3 := hk2.trans (hb3.mono hk2.size)
    have hES3 := hES.below hb3
    have hrn3 := fun (w4 : World) (h4 : Below w3.heap.size w3 w4) => hrn w4 (hb3.trans (h4.mono hb3.size))
    clear hra hrn hES hk2 hb3
    rcases hR with ⟨hce, _⟩ | ⟨_, ⟨way, aw, cw, hW, _⟩ | ⟨_, rfl⟩⟩
    · exact absurd hch hce
    · exact absurd (one_calm z way) hW.race
    · have hp := hA.ok
      have htot : z.length ≤ 10 := by
        have := hA.small
        have h1 : plen [z] 0 = z.length := plen_one z
        unfold totL at this
        omega
      have hall := one_all_end hA rfl (one_last hp)
      have hck : chkP [z] = 0 := by
        unfold chkE at hch
        by_cases c : chkP [z] = 0
        · exact c
        · rw [if_pos c] at hch; exact hch
      have her : errR [z] z.length = 0 := by
        unfold errR
        rw [if_pos hck, if_neg (by omega)]
      have hend : endR [z] (List.replicate z.length 0) = enE (enS [z] (runP [z] (List.replicate z.length 0)).1) := by
        unfold endR
        rw [List.length_replicate, if_pos her]
        rfl
      have hmk := make_zeros z.length (by omega)
      obtain ⟨x, hx⟩ : ∃ x, enS [z] (runP [z] (List.replicate z.length 0)).1 = x := ⟨_, rfl⟩
      rw [hx] at hall hend
      subst hall
      have hnm : NumOk x.1 := hnum x (by simp)
      obtain ⟨b, o, rfl, hr⟩ := hES3.at (i := 0) (by simp)
      rw [Nat.zero_mul, Nat.add_zero] at hr
      simp only [List.getElem_cons_zero] at hr
      have heq := fun (w4 : World) => eql_enE (x := x) (y := x) hnm hnm w4
      rw [show eqE x x = true from eqE_iff.2 rfl] at heq
      have hZ := enE_size x
      have hZ1 := enE_one x
      have hz20 := endC_size PS.zero false false
      unfold RunPost at hrn3
      rw [hend, List.length_replicate, her] at hrn3
      obtain ⟨Z, hZe⟩ : ∃ Z, enE x = Z := ⟨_, rfl⟩
      rw [hZe] at hr heq hZ hZ1 hrn3
      clear hA hES3 hp hck her hend hx hnm hZe hnum hch
      rw [show ([x] : List EnD).length = 1 from rfl]
      go_upto_region 8 with fail
      go_wp2_with fail
      have hb4 : Below w3.heap.size w3 (w3.alloc (.cells (zI z.length) 3)) := (Below.refl _ _).alloc (Nat.le_refl _) _
      have hQ : IntS (w3.alloc (.cells (zI z.length) 3)) (some ⟨w3.heap.size, 0, none⟩) (List.replicate z.length 0) := zI_ints (Has.new w3 _ _) (by omega)
      have hr4 := hrn3 _ hb4 (some ⟨w3.heap.size, 0, none⟩) z.length hQ
      generalize w3.alloc (.cells (zI z.length) 3) = w4 at *
      refine hr4.mono ?_
      rintro r w5 ⟨a5, c5, _, rfl, _, hb5⟩
      have hk5 := hk3.trans ((hb4.trans (hb5.mono hb4.size)).mono hk3.size)
      have hr5 : w5.rangeAt b o Z.toList := fun j v hv => by
        have h2 := hr j v hv
        have h3 := (hb4.cell (World.block_lt_of_cell? w3 _ h2)).trans h2
        exact (hb5.cell (World.block_lt_of_cell? w4 _ h3)).trans h3
      clear hrn3 hr4 hQ hb4 hb5 hk3 hr hmk
      generalize evR [z] (List.replicate z.length 0) = L at *
      go_upto_region 9 with (refine wpList_store_row rfl endT _ _ rfl w5.heap.size Z rfl rfl endT _ (Has.new w5 (endC PS.zero false false) endT).out (by rw [hZ]; rfl) (by rw [hZ, hz20]) hZ1 ?_)
      generalize hWx : World.setRow _ _ _ = W6
      have hN6 : Has W6 w5.heap.size Z endT := by rw [← hWx]; exact (Has.new w5 (endC PS.zero false false) endT).setRow
      have hb6 : Below w5.heap.size w5 W6 := by rw [← hWx]; exact below_setRow ((Below.refl _ _).alloc (Nat.le_refl _) _) (Nat.le_refl _)
      have hk6 := hk5.trans (hb6.mono hk5.size)
      have F1 : ∀ w7, Below W6.heap.size W6 w7 → w7.rangeAt b o Z.toList := fun w7 h7 j v hv => by
        have h2 := hr5 j v hv
        have h3 := (hb6.cell (World.block_lt_of_cell? w5 _ h2)).trans h2
        exact (h7.cell (World.block_lt_of_cell? W6 _ h3)).trans h3
      have F2 : ∀ w7, (binOp .eql endT (.agg Z) (.agg Z)).run Try.prog w7 = .ok (.bool true) w7 := heq
      clear hWx hr5 hb6 hk5
      clear heq
      refine wp_region_fac 22 (fun _ => false) [.one ?y0, .one ?y1, .one ?y2, .one ?y3, .one ?y4, .one ?y5, .one ?y6, .one ?y7, .one (.bool true), .one (.bool true), .one (.bool true), .one (.int .i64 0), .one (.bool true), .one (.bool true), .one (.bool true), .one (.bool false), .one (.bool true), .one (.bool true), .one (.bool true), .one (.int .i64 0), .one (.bool true), .one (.bool true)] (by kernel_rfl) (by kernel_rfl) (by kernel_rfl) (by intro F hF; simp at hF) ?goy
      case goy =>
      simp only [List.take_succ_cons, List.take_zero, List.drop_succ_cons, List.drop_zero]
      repeat (with_reducible refine wpFac_one rfl (fun w1 hw1 hd => ?_) (fun a1 ha1 => ?_); (· go_simp; first | exact rfl | (refine ⟨atD_some ?_, Below.refl _ _⟩; simp only [List.getElem?_toArray, List.getElem?_cons_succ, List.getElem?_cons_zero]; exact rfl)); simp [Act.put] at ha1; subst ha1)
      with_reducible refine wpFac_one rfl (fun w1 hw1 hd => ?_) (fun a1 ha1 => ?_)
      · refine asked rfl ?_
        refine wp_load_mid 29 _ rfl b o rfl Z.toList _ (F1 w1 hw1) Try.underlying29 rfl (by rw [Array.length_toList, hZ]; rfl) ?_
        refine ⟨rfl, atD_some ?_, Below.refl _ _⟩
        simp [Act.put]
        exact rfl
      simp [Act.put] at ha1; subst ha1
      with_reducible refine wpFac_one rfl (fun w1 hw1 hd => ?_) (fun a1 ha1 => ?_)
      · refine asked rfl ?_
        refine wp_load_row 29 _ rfl (w5.heap.size) rfl 29 Z (0, 0) _ (hN6.below hw1 hN6.lt).out Try.underlying29 rfl (by rw [hZ]; rfl) ?_
        refine ⟨rfl, atD_some ?_, Below.refl _ _⟩
        simp [Act.put]
        exact rfl
      simp [Act.put] at ha1; subst ha1
      repeat (with_reducible refine wpFac_one rfl (fun w1 hw1 hd => ?_) (fun a1 ha1 => ?_); (· have eF2 := F2; go_simp; all_goals first | exact rfl | exact ⟨atD_some rfl, Below.refl _ _⟩ | exact Below.refl _ _); simp [Act.put] at ha1; subst ha1)
      refine wpFac_nil ?_
      intro w7 hw7 _
      have hk7 := hk6.trans (hw7.mono hk6.size)
      clear hN6 hw7 F1 F2 hk6
      go_wp2
      go_ret
      exact ⟨rfl, hk7⟩
/-! The frame of the law EveryOne, by program. -/
set_option maxRecDepth 100000 in
theorem everyOne_lifted (os : Os) (started : os.Started) (H : Type) (enc : TypeId × Value → H) :
    ReturnsInHanded {} Try.checked os 12 .any (Rows.everyOneSpec.pre6 enc Try.prog Try.f12 Rows.everyOneRow.domain false) (Rows.everyOneSpec.post enc Try.prog Try.f12 false true false false) := by
  refine returnsInHanded_of_change_shaped (C := Try.checked) frame_own started (by kernel_rfl) Try.func12
    (ChangeSpec.witness6 (enc := enc) (C := Try.checked) false ⟨#[], #[.slice none 0 0], []⟩ 8 (by kernel_rfl) (by kernel_rfl) (by kernel_rfl) (by kernel_rfl)) ?_
  intro W base args ds gs before hval0 hW hcnd hsz hshaped hroom
  clear hcnd hshaped
  have hval : ∀ (j : Nat) t v, Try.f12.params[j]? = some t → args[j]? = some v → Value.okWide Try.prog W .any base t v := hval0
  have hW' := hW
  obtain ⟨p, q, hA0, hV, rfl, hfz, hnd⟩ := hW
  have hA : DataW.TrodAll enc Try.prog W 0 (fun _ => true) true Try.f12.params.toList args.toList ds p := hA0
  rw [Try.params12] at hA hval
  obtain ⟨v0, vs0, d0, ds0, p0, q0, hargs, rfl, rfl, h0, r0⟩ := trodAll_cons hA
  obtain ⟨rfl, rfl, rfl⟩ := trodAll_nil r0
  obtain rfl : args = #[v0] := by cases args; simp_all
  obtain ⟨rfl, rfl⟩ := trodVars_none hV
  have k0 := h0
  have lt0 : ∀ x ∈ p0, x.block < W.heap.size := by obtain ⟨m, hm⟩ := k0; exact DataW.trod_lt m _ _ _ hm
  obtain ⟨a0, z0, c0, rfl, w0⟩ := open_ops (hval 0 38 v0 rfl rfl) h0 (fun els sp hd => sized_slice hsz (j := 0) rfl (by rw [hd]; rfl) Try.underlying38)
  clear hA0 hval0
  refine (everyOne_walk a0 z0 c0 W w0).mono fun e W' ⟨he, bel⟩ => ?_
  subst he
  exact ⟨_, rfl, _, _, _, [], _, [], hW', trodAll_mk1 (shut_bool Try.underlying4 _), (trodAll_cons_mk (Below.trod frame_laid (by kernel_rfl) (of_decide_eq_true (by kernel_rfl)) k0 bel lt0) trodAll_mk0), rfl, bel.frame _, fun h => by cases h⟩

theorem everyOne_over : Rows.everyOneRow.holds Try.pinned (OpenSpec.ofChange Rows.everyOneSpec) :=
  OpenClaim.holds_of_wide 12 Try.f12 rfl rfl rfl rfl rfl rfl rfl ⟨rfl, rfl, rfl, rfl, rfl⟩ rfl rfl rfl rfl rfl (by kernel_rfl) Try.func12 (by kernel_rfl)
    (of_decide_eq_true (by kernel_rfl)) (by unfold Func.isWrapper; first | (rw [if_pos (by decide +kernel)]; kernel_rfl) | (rw [if_neg (by decide +kernel)]; exact ⟨rfl, rfl⟩))
    (fun os started H enc _ => everyOne_lifted os started H enc)

/-- The statement. -/
theorem everyOne_holds : Rows.EveryOneSaid := everyOne_over

end Go.Proofs.Ytoohconipcleiaa
