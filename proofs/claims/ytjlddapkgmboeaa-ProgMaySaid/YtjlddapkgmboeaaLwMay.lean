/- ProgMay: the events of an execution are a valid trace: for every program and every slice of picks. -/
import Derived.Test.YtjlddapkgmboeaaRows
import Derived.Test.YtjlddapkgmboeaaPgI
import Derived.Test.YtjlddapkgmboeaaPgQ
import Derived.Test.YtjlddapkgmboeaaOpenE
import Derived.Test.YtjlddapkgmboeaaOpenI
namespace Go.Proofs.Ytjlddapkgmboeaa
open Go.ChangeShapes Go.WideShapes Go.ChangeAt Go.RowKit

set_option maxRecDepth 100000 in
set_option maxHeartbeats 8000000 in
theorem progMay_walk (a : Option Addr) (p : List (List Ev)) (c : Nat) (ap : Option Addr) (l : List Int) (cp : Nat) (w : World) (hp : PgS w a p ∧ (p.length ≤ c ∧ p.length * 24 ≤ 140737488351232) ∧ ∀ z ∈ p, ∀ e ∈ z, I64 e.k ∧ I64 e.t ∧ I64 e.o) (hl : IntS w ap l ∧ l.length ≤ cp ∧ l.length * 8 ≤ 140737488351232 ∧ ∀ n ∈ l, I64 n) :
    Calls Try.prog 8 #[.slice a p.length c, .slice ap l.length cp] w fun e w' => e = .returned (.bool true) ∧ Below w.heap.size w w' := by
  have h := hp.1
  have hq := hl.1
  have hbig := hq.big
  clear hp hl
  go_enter Try.func8, Try.ntmps8
  go_wp2_with fail
  refine (ran_any _).mono ?_
  rintro r w1 ⟨rfl, hb1⟩
  go_wp2_with fail
  refine (run_any p l a ap c cp _ (h.below hb1) (hq.below hb1)).mono ?_
  rintro r w2 ⟨a2, c2, rfl, hL, hk⟩
  have hb2 := hb1.trans (hk.mono hb1.size)
  have HS := Lib.hid (endR_size p l)
  have H1 := Lib.hid (endR_one p l)
  by_cases he : errR p l.length = 0
  · have hX : chkP p = 0 := by
      unfold errR at he
      split at he
      · assumption
      · exact he
    have hl100 : l.length ≤ 100 := by
      unfold errR at he
      rw [if_pos hX] at he
      split at he
      · cases he
      · omega
    have hO := chkP_ok hX
    have hE : endR p l = endC (runP p l).1 (doneB p (runP p l).1) (stuckB p (runP p l).1) := by unfold endR; rw [if_pos he]
    have hV : evR p l = (runP p l).2 := by unfold evR; rw [if_pos he]
    have hM := runP_may hO l
    have hLn := runP_len p l
    have hds := stuck_done p (runP p l).1
    rw [← hV] at hM hLn
    have c18 : (endR p l)[18]? = some (.bool (doneB p (runP p l).1)) := by rw [hE, endC_get _ _ _ (by omega)]; rfl
    have c19 : (endR p l)[19]? = some (.bool (stuckB p (runP p l).1)) := by rw [hE, endC_get _ _ _ (by omega)]; rfl
    generalize doneB p (runP p l).1 = D at *
    generalize stuckB p (runP p l).1 = Q at *
    rw [he]
    have HM := Lib.hid hM
    have C18 := Lib.hid c18
    have C19 := Lib.hid c19
    have HDS := Lib.hid hds
    clear hE hV hk hM c18 c19 hds hX hO he
    generalize evR p l = M at *
    generalize endR p l = Y at *
    have hln2 : decide ((M.length : Int) ≤ (l.length : Int)) = true := decide_eq_true (by omega)
    have hln3 : decide (M.length ≤ l.length) = true := decide_eq_true hLn
    go_wp2_with (refine wpList_store_row rfl endT _ _ rfl w2.heap.size Y rfl rfl endT _ ((Has.new w2 (endC PS.zero false false) endT)).out (by rw [HS.out]; rfl) (by rw [HS.out, endC_size]) H1.out ?_
                 generalize hW3 : World.setRow _ _ _ = W3
                 have hZ3 : Has W3 w2.heap.size Y endT := by rw [← hW3]; exact (Has.new w2 (endC PS.zero false false) endT).setRow
                 have hk3 : Below w2.heap.size w2 W3 := by rw [← hW3]; exact below_setRow ((Below.refl _ _).alloc (Nat.le_refl _) _) (Nat.le_refl _)
                 have hb3 := hb2.trans (hk3.mono hb2.size)
                 clear hW3)
    refine (may_any M a2 c2 W3 (hL.below (hk3.mono (Nat.le_refl _)))).mono ?_
    rintro r w5 ⟨rfl, hk5⟩
    have hZ5 := hZ3.below hk5 hZ3.lt
    have hb5 := hb3.trans (hk5.mono hb3.size)
    have x18 : w5.cell? ⟨w2.heap.size, 18, none⟩ = some (.bool D) := hZ5.cell C18.out
    have x19 : w5.cell? ⟨w2.heap.size, 19, none⟩ = some (.bool Q) := hZ5.cell C19.out
    rw [HM.out]
    clear hZ3 hb3 hk5 hk3 hL
    cases D
    · go_wp2
      go_ret
      exact ⟨rfl, hb5⟩
    · obtain rfl : Q = false := by have := HDS.out; simpa using this
      go_wp2
      go_ret
      exact ⟨rfl, hb5⟩
  · have hE : endR p l = endC PS.zero false false := by unfold endR; rw [if_neg he]
    have hV : evR p l = [] := by unfold evR; rw [if_neg he]
    have hEQ : ∀ w, (binOp .eql endT (.agg (endR p l)) (.agg #[.int .i64 0, .int .i64 0, .int .i64 0, .int .i64 0, .int .i64 0, .int .i64 0, .int .i64 0, .int .i64 0, .int .i64 0, .int .i64 0, .int .i64 0, .int .i64 0, .int .i64 0, .int .i64 0, .int .i64 0, .int .i64 0, .int .i64 0, .int .i64 0, .bool false, .bool false])).run Try.prog w = .ok (.bool true) w := by
      intro w
      rw [hE]
      exact eql_end_refl zero_ok false false w
    rw [hV]
    have r1 : (errR p l.length == 0) = false := beq_eq_false_iff_ne.2 he
    have r2 : (errR p l.length != 0) = true := by simp [bne, r1]
    generalize errR p l.length = X at *
    clear hE hV hk he
    generalize endR p l = Y at *
    go_wp2_with (first
      | (refine wpList_store_row rfl endT _ _ rfl w2.heap.size Y rfl rfl endT _ ((Has.new w2 (endC PS.zero false false) endT)).out (by rw [HS.out]; rfl) (by rw [HS.out, endC_size]) H1.out ?_
         generalize hW3 : World.setRow _ _ _ = W3
         have hZ3 : Has W3 w2.heap.size Y endT := by rw [← hW3]; exact (Has.new w2 (endC PS.zero false false) endT).setRow
         have hk3 : Below w2.heap.size w2 W3 := by rw [← hW3]; exact below_setRow ((Below.refl _ _).alloc (Nat.le_refl _) _) (Nat.le_refl _)
         have hb3 := hb2.trans (hk3.mono hb2.size)
         clear hW3)
      | (refine wpList_load_row rfl endT _ rfl w2.heap.size rfl endT Y (0, 0) _ hZ3.out Try.underlying30 rfl (by rw [HS.out]; rfl) ?_))
    go_ret
    exact ⟨rfl, hb3⟩

/-! The frame of the law ProgMay, by program. -/
set_option maxRecDepth 100000 in
theorem progMay_lifted (os : Os) (started : os.Started) (H : Type) (enc : TypeId × Value → H) :
    ReturnsInHanded {} Try.checked os 8 .any (Rows.progMaySpec.pre6 enc Try.prog Try.f8 Rows.progMayRow.domain false) (Rows.progMaySpec.post enc Try.prog Try.f8 false true false false) := by
  refine returnsInHanded_of_change_shaped (C := Try.checked) frame_own started (by kernel_rfl) Try.func8
    (ChangeSpec.witness6 (enc := enc) (C := Try.checked) false ⟨#[], #[.slice none 0 0, .slice none 0 0], []⟩ 8 (by kernel_rfl) (by kernel_rfl) (by kernel_rfl) (by kernel_rfl)) ?_
  intro W base args ds gs before hval0 hW hcnd hsz hshaped hroom
  clear hcnd hshaped
  have hval : ∀ (j : Nat) t v, Try.f8.params[j]? = some t → args[j]? = some v → Value.okWide Try.prog W .any base t v := hval0
  have hW' := hW
  obtain ⟨p, q, hA0, hV, rfl, hfz, hnd⟩ := hW
  have hA : DataW.TrodAll enc Try.prog W 0 (fun _ => true) true Try.f8.params.toList args.toList ds p := hA0
  rw [Try.params8] at hA hval
  obtain ⟨v0, vs0, d0, ds0, p0, q0, hargs, rfl, rfl, h0, r0⟩ := trodAll_cons hA
  obtain ⟨v1, vs1, d1, ds1, p1, q1, rfl, rfl, rfl, h1, r1⟩ := trodAll_cons r0
  obtain ⟨rfl, rfl, rfl⟩ := trodAll_nil r1
  obtain rfl : args = #[v0, v1] := by cases args; simp_all
  obtain ⟨rfl, rfl⟩ := trodVars_none hV
  have k0 := h0
  have lt0 : ∀ x ∈ p0, x.block < W.heap.size := by obtain ⟨m, hm⟩ := k0; exact DataW.trod_lt m _ _ _ hm
  obtain ⟨a0, z0, c0, rfl, w0⟩ := open_prog (hval 0 22 v0 rfl rfl) h0 (fun n hn => of_decide_eq_true (List.all_eq_true.1 hsz _ (DataW.weights_mem_each (j := 0) rfl rfl n hn)))
  have k1 := h1
  have lt1 : ∀ x ∈ p1, x.block < W.heap.size := by obtain ⟨m, hm⟩ := k1; exact DataW.trod_lt m _ _ _ hm
  obtain ⟨a1, z1, c1, rfl, w1⟩ := open_ints (hval 1 23 v1 rfl rfl) h1 (fun els sp hd => sized_slice hsz (j := 1) rfl (by rw [hd]; rfl) Try.underlying23)
  clear hA0 hval0
  refine (progMay_walk a0 z0 c0 a1 z1 c1 W w0 w1).mono fun e W' ⟨he, bel⟩ => ?_
  subst he
  exact ⟨_, rfl, _, _, _, [], _, [], hW', trodAll_mk1 (shut_bool Try.underlying4 _), (trodAll_cons_mk (Below.trod frame_laid (by kernel_rfl) (of_decide_eq_true (by kernel_rfl)) k0 bel lt0) (trodAll_cons_mk (Below.trod frame_laid (by kernel_rfl) (of_decide_eq_true (by kernel_rfl)) k1 bel lt1) trodAll_mk0)), rfl, bel.frame _, fun h => by cases h⟩

theorem progMay_over : Rows.progMayRow.holds Try.pinned (OpenSpec.ofChange Rows.progMaySpec) :=
  OpenClaim.holds_of_wide 8 Try.f8 rfl rfl rfl rfl rfl rfl rfl ⟨rfl, rfl, rfl, rfl, rfl⟩ rfl rfl rfl rfl rfl (by kernel_rfl) Try.func8 (by kernel_rfl)
    (of_decide_eq_true (by kernel_rfl)) (by unfold Func.isWrapper; first | (rw [if_pos (by decide +kernel)]; kernel_rfl) | (rw [if_neg (by decide +kernel)]; exact ⟨rfl, rfl⟩))
    (fun os started H enc _ => progMay_lifted os started H enc)

/-- The statement. -/
theorem progMay_holds : Rows.ProgMaySaid := progMay_over

end Go.Proofs.Ytjlddapkgmboeaa
