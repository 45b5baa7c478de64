/- ProgSame: two complete executions with equivalent traces end in the same state: for every program and every two slices of picks. -/
import Derived.Test.YthfeakfakjecoaaRows
import Derived.Test.YthfeakfakjecoaaPgI
import Derived.Test.YthfeakfakjecoaaPgU
import Derived.Test.YthfeakfakjecoaaLeg
import Derived.Test.YthfeakfakjecoaaOpenE
import Derived.Test.YthfeakfakjecoaaOpenI
namespace Go.Proofs.Ythfeakfakjecoaa
open Go.ChangeShapes Go.WideShapes Go.ChangeAt Go.RowKit

theorem errR_zero {p : List (List Ev)} {n : Nat} (h : errR p n = 0) : chkP p = 0 := by
  unfold errR at h
  by_cases c : chkP p = 0
  · exact c
  · rw [if_neg c] at h; exact absurd h c
theorem endR_18 (p : List (List Ev)) (l : List Int) : ∃ d, (endR p l)[18]? = some (.bool d) ∧ (errR p l.length = 0 → d = doneB p (runP p l).1) := by
  unfold endR
  by_cases h : errR p l.length = 0
  · rw [if_pos h]; exact ⟨_, by rw [endC_get _ _ _ (by omega)]; rfl, fun _ => rfl⟩
  · rw [if_neg h]; exact ⟨_, by rw [endC_get _ _ _ (by omega)]; rfl, fun e => absurd e h⟩

set_option maxRecDepth 100000 in
set_option maxHeartbeats 8000000 in
theorem progSame_walk (a : Option Addr) (p : List (List Ev)) (c : Nat) (ap : Option Addr) (l : List Int) (cp : Nat) (aq : Option Addr) (m : List Int) (cq : Nat) (w : World) (hp : PgS w a p ∧ (p.length ≤ c ∧ p.length * 24 ≤ 140737488351232) ∧ ∀ z ∈ p, ∀ e ∈ z, I64 e.k ∧ I64 e.t ∧ I64 e.o) (hl : IntS w ap l ∧ l.length ≤ cp ∧ l.length * 8 ≤ 140737488351232 ∧ ∀ n ∈ l, I64 n) (hm : IntS w aq m ∧ m.length ≤ cq ∧ m.length * 8 ≤ 140737488351232 ∧ ∀ n ∈ m, I64 n) :
    Calls Try.prog 9 #[.slice a p.length c, .slice ap l.length cp, .slice aq m.length cq] w fun e w' => e = .returned (.bool true) ∧ Below w.heap.size w w' := by
  have h := hp.1
  have hq := hl.1
  have hr := hm.1
  clear hp hl hm
  go_enter Try.func9, Try.ntmps9
  go_wp2_with fail
  refine (ran_any _).mono ?_
  rintro r w1 ⟨rfl, hb1⟩
  go_wp2_with fail
  refine (run_any p l a ap c cp _ (h.below hb1) (hq.below hb1)).mono ?_
  rintro r w2 ⟨a2, c2, ⟨hc2, _⟩, rfl, hL, hk⟩
  have hb2 := hb1.trans (hk.mono hb1.size)
  have HS := Lib.hid (endR_size p l)
  have H1 := Lib.hid (endR_one p l)
  have HEQ := Lib.hid (eql_endR p l)
  obtain ⟨D, hD, hDd⟩ := endR_18 p l
  obtain ⟨Y, hY⟩ : ∃ Y, endR p l = Y := ⟨_, rfl⟩
  rw [hY] at HS H1 HEQ hD ⊢
  have HY := Lib.hid hY
  have C18 := Lib.hid hD
  have HDd := Lib.hid hDd
  have hs2 := hb2.size
  clear hY hk hb1 hD hDd
  go_wp2_with (refine wpList_store_row rfl endT _ _ rfl w2.heap.size Y rfl rfl endT _ ((Has.new w2 (endC PS.zero false false) endT)).out (by rw [HS.out]; rfl) (by rw [HS.out, endC_size]) H1.out ?_
               generalize hWx : World.setRow _ _ _ = W3
               have hZ3 : Has W3 w2.heap.size Y endT := by rw [← hWx]; exact (Has.new w2 (endC PS.zero false false) endT).setRow
               have hk3 : Below w2.heap.size w2 W3 := by rw [← hWx]; exact below_setRow ((Below.refl _ _).alloc (Nat.le_refl _) _) (Nat.le_refl _)
               have hb3 := hb2.trans (hk3.mono hb2.size)
               clear hWx)
  have hL3 := hL.below (hk3.mono (Nat.le_refl _))
  have hs3 := hb3.size
  clear hb2 hk3 hL
  refine (run_any p m a aq c cq _ (h.below hb3) (hr.below hb3)).mono ?_
  rintro r w4 ⟨a4, c4, _, rfl, hM, hk⟩
  have hb4 := hb3.trans (hk.mono hs3)
  have hZ4 := hZ3.below hk hZ3.lt
  have hL4 := hL3.below hk
  have HS' := Lib.hid (endR_size p m)
  have H1' := Lib.hid (endR_one p m)
  obtain ⟨D', hD', hDd'⟩ := endR_18 p m
  obtain ⟨Y', hY'⟩ : ∃ Y', endR p m = Y' := ⟨_, rfl⟩
  rw [hY'] at HS' H1' hD' ⊢
  have HY' := Lib.hid hY'
  have C18' := Lib.hid hD'
  have HDd' := Lib.hid hDd'
  clear hY' hk hb3 hZ3 hL3 hs2 hs3 hD' hDd'
  -- two bools
  obtain ⟨q, hq0⟩ : ∃ q, (errR p l.length != 0) = q := ⟨_, rfl⟩
  obtain ⟨q', hq0'⟩ : ∃ q', (errR p m.length != 0) = q' := ⟨_, rfl⟩
  have HF : Hid (q = false → q' = false → D = true → D' = true → (played (evR p l)).2.2 = 0 ∧ (played (evR p m)).2.2 = 0 ∧ (sameB (evR p l) (evR p m) = true → Y = Y')) := Lib.hid (by
    intro e1 e2 e3 e4
    have z1 : errR p l.length = 0 := by rw [e1] at hq0; simpa using hq0
    have z2 : errR p m.length = 0 := by rw [e2] at hq0'; simpa using hq0'
    have hO := chkP_ok (errR_zero z1)
    have d1 := HDd.out z1
    have d2 := HDd'.out z2
    have v1 : evR p l = (runP p l).2 := by unfold evR; rw [if_pos z1]
    have v2 : evR p m = (runP p m).2 := by unfold evR; rw [if_pos z2]
    have y1 : Y = endC (runP p l).1 (doneB p (runP p l).1) (stuckB p (runP p l).1) := by rw [← HY.out]; unfold endR; rw [if_pos z1]
    have y2 : Y' = endC (runP p m).1 (doneB p (runP p m).1) (stuckB p (runP p m).1) := by rw [← HY'.out]; unfold endR; rw [if_pos z2]
    have m1 := may_played (runP_may hO l)
    have m2 := may_played (runP_may hO m)
    rw [v1, v2]
    refine ⟨m1, m2, fun hs => ?_⟩
    have s1 := stuck_done p (runP p l).1
    have s2 := stuck_done p (runP p m).1
    rw [← d1, e3] at s1
    rw [← d2, e4] at s2
    have s1' : stuckB p (runP p l).1 = false := by simpa using s1
    have s2' : stuckB p (runP p m).1 = false := by simpa using s2
    rw [y1, y2, ← d1, ← d2, e3, e4, s1', s2']
    exact same_end hO l m (d1.symm.trans e3) (d2.symm.trans e4) hs true false)
  clear HDd HDd' HY HY'
  generalize errR p l.length = X at *
  generalize errR p m.length = X' at *
  generalize evR p l = L at *
  generalize evR p m = M at *
  go_wp2_with (refine wpList_store_row rfl endT _ _ rfl w4.heap.size Y' rfl rfl endT _ ((Has.new w4 (endC PS.zero false false) endT)).out (by rw [HS'.out]; rfl) (by rw [HS'.out, endC_size]) H1'.out ?_
               generalize hWx : World.setRow _ _ _ = W5
               have hZ5 : Has W5 w4.heap.size Y' endT := by rw [← hWx]; exact (Has.new w4 (endC PS.zero false false) endT).setRow
               have hk5 : Below w4.heap.size w4 W5 := by rw [← hWx]; exact below_setRow ((Below.refl _ _).alloc (Nat.le_refl _) _) (Nat.le_refl _)
               have hb5 := hb4.trans (hk5.mono hb4.size)
               have hZ1 := hZ4.below hk5 hZ4.lt
               have x18 : W5.cell? ⟨w2.heap.size, 18, none⟩ = some (.bool D) := hZ1.cell C18.out
               have x18' : W5.cell? ⟨w4.heap.size, 18, none⟩ = some (.bool D') := hZ5.cell C18'.out
               have hL5 := hL4.below (hk5.mono (Nat.le_refl _))
               have hM5 := hM.below (hk5.mono (Nat.le_refl _))
               clear hWx hk5 hL4 hM hZ4 hb4
               cases q
               all_goals cases q'
               all_goals cases D
               all_goals cases D')
  all_goals (try ((try go_wp2); go_ret; exact ⟨rfl, hb5⟩))
  obtain ⟨m1, m2, hs⟩ := HF.out trivial trivial trivial trivial
  have hE0 : sameE L M = 0 := sameE_zero.2 ⟨m1, m2⟩
  refine (same_any L M _ _ rfl rfl a2 a4 c2 c4 W5 hL5 hM5).mono ?_
  rintro r w6 ⟨rfl, hk6⟩
  rw [hE0]
  have hZ6 := hZ5.below hk6 hZ5.lt
  have hZ7 := hZ1.below hk6 hZ1.lt
  have hb6 := hb5.trans (hk6.mono hb5.size)
  clear HF hZ5 hZ1 hk6 hb5 hL5 hM5 x18 x18' hq0 hq0' m1 m2 hE0
  cases hsb : sameB L M
  · clear hs hsb
    go_wp2
    go_ret
    exact ⟨rfl, hb6⟩
  · have e := hs hsb
    subst e
    clear hs hsb
    have hx3 := HEQ.out
    go_wp2_with (first
      | (refine wpList_yes rfl (fun K hK => ?_); refine wp_load_row endT _ rfl w4.heap.size rfl endT Y (0, 0) _ hZ6.out Try.underlying30 rfl (by rw [HS.out]; rfl) ?_; refine hK _ _ ?_; clear hK K)
      | (refine wpList_yes rfl (fun K hK => ?_); refine wp_load_row endT _ rfl w2.heap.size rfl endT Y (0, 0) _ hZ7.out Try.underlying30 rfl (by rw [HS.out]; rfl) ?_; refine hK _ _ ?_; clear hK K))
    go_ret
    exact ⟨rfl, hb6⟩

/-! The frame of the law ProgSame, by program. -/
set_option maxRecDepth 100000 in
theorem progSame_lifted (os : Os) (started : os.Started) (H : Type) (enc : TypeId × Value → H) :
    ReturnsInHanded {} Try.checked os 9 .any (Rows.progSameSpec.pre6 enc Try.prog Try.f9 Rows.progSameRow.domain false) (Rows.progSameSpec.post enc Try.prog Try.f9 false true false false) := by
  refine returnsInHanded_of_change_shaped (C := Try.checked) frame_own started (by kernel_rfl) Try.func9
    (ChangeSpec.witness6 (enc := enc) (C := Try.checked) false ⟨#[], #[.slice none 0 0, .slice none 0 0, .slice none 0 0], []⟩ 8 (by kernel_rfl) (by kernel_rfl) (by kernel_rfl) (by kernel_rfl)) ?_
  intro W base args ds gs before hval0 hW hcnd hsz hshaped hroom
  clear hcnd hshaped
  have hval : ∀ (j : Nat) t v, Try.f9.params[j]? = some t → args[j]? = some v → Value.okWide Try.prog W .any base t v := hval0
  have hW' := hW
  obtain ⟨p, q, hA0, hV, rfl, hfz, hnd⟩ := hW
  have hA : DataW.TrodAll enc Try.prog W 0 (fun _ => true) true Try.f9.params.toList args.toList ds p := hA0
  rw [Try.params9] at hA hval
  obtain ⟨v0, vs0, d0, ds0, p0, q0, hargs, rfl, rfl, h0, r0⟩ := trodAll_cons hA
  obtain ⟨v1, vs1, d1, ds1, p1, q1, rfl, rfl, rfl, h1, r1⟩ := trodAll_cons r0
  obtain ⟨v2, vs2, d2, ds2, p2, q2, rfl, rfl, rfl, h2, r2⟩ := trodAll_cons r1
  obtain ⟨rfl, rfl, rfl⟩ := trodAll_nil r2
  obtain rfl : args = #[v0, v1, v2] := by cases args; simp_all
  obtain ⟨rfl, rfl⟩ := trodVars_none hV
  have k0 := h0
  have lt0 : ∀ x ∈ p0, x.block < W.heap.size := by obtain ⟨m, hm⟩ := k0; exact DataW.trod_lt m _ _ _ hm
  obtain ⟨a0, z0, c0, rfl, w0⟩ := open_prog (hval 0 22 v0 rfl rfl) h0 (fun n hn => of_decide_eq_true (List.all_eq_true.1 hsz _ (DataW.weights_mem_each (j := 0) rfl rfl n hn)))
  have k1 := h1
  have lt1 : ∀ x ∈ p1, x.block < W.heap.size := by obtain ⟨m, hm⟩ := k1; exact DataW.trod_lt m _ _ _ hm
  obtain ⟨a1, z1, c1, rfl, w1⟩ := open_ints (hval 1 23 v1 rfl rfl) h1 (fun els sp hd => sized_slice hsz (j := 1) rfl (by rw [hd]; rfl) Try.underlying23)
  have k2 := h2
  have lt2 : ∀ x ∈ p2, x.block < W.heap.size := by obtain ⟨m, hm⟩ := k2; exact DataW.trod_lt m _ _ _ hm
  obtain ⟨a2, z2, c2, rfl, w2⟩ := open_ints (hval 2 23 v2 rfl rfl) h2 (fun els sp hd => sized_slice hsz (j := 2) rfl (by rw [hd]; rfl) Try.underlying23)
  clear hA0 hval0
  refine (progSame_walk a0 z0 c0 a1 z1 c1 a2 z2 c2 W w0 w1 w2).mono fun e W' ⟨he, bel⟩ => ?_
  subst he
  exact ⟨_, rfl, _, _, _, [], _, [], hW', trodAll_mk1 (shut_bool Try.underlying4 _), (trodAll_cons_mk (Below.trod frame_laid (by kernel_rfl) (of_decide_eq_true (by kernel_rfl)) k0 bel lt0) (trodAll_cons_mk (Below.trod frame_laid (by kernel_rfl) (of_decide_eq_true (by kernel_rfl)) k1 bel lt1) (trodAll_cons_mk (Below.trod frame_laid (by kernel_rfl) (of_decide_eq_true (by kernel_rfl)) k2 bel lt2) trodAll_mk0))), rfl, bel.frame _, fun h => by cases h⟩

theorem progSame_over : Rows.progSameRow.holds Try.pinned (OpenSpec.ofChange Rows.progSameSpec) :=
  OpenClaim.holds_of_wide 9 Try.f9 rfl rfl rfl rfl rfl rfl rfl ⟨rfl, rfl, rfl, rfl, rfl⟩ rfl rfl rfl rfl rfl (by kernel_rfl) Try.func9 (by kernel_rfl)
    (of_decide_eq_true (by kernel_rfl)) (by unfold Func.isWrapper; first | (rw [if_pos (by decide +kernel)]; kernel_rfl) | (rw [if_neg (by decide +kernel)]; exact ⟨rfl, rfl⟩))
    (fun os started H enc _ => progSame_lifted os started H enc)

/-- The statement. -/
theorem progSame_holds : Rows.ProgSameSaid := progSame_over

end Go.Proofs.Ythfeakfakjecoaa
