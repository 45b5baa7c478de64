/- ProgOne: a single thread executes all its operations unless it waits for itself or joins: for every slice of operations. -/
import Derived.Test.YthfeakfakjecoaaRows
import Derived.Test.YthfeakfakjecoaaPgI
import Derived.Test.YthfeakfakjecoaaPgV
import Derived.Test.YthfeakfakjecoaaMapI
import Derived.Test.YthfeakfakjecoaaQuT
import Derived.Test.YthfeakfakjecoaaOpenE
import Derived.Test.YthfeakfakjecoaaOpenO
namespace Go.Proofs.Ythfeakfakjecoaa
open Go.ChangeShapes Go.WideShapes Go.ChangeAt Go.RowKit

/-- n zeros. -/
def zI (n : Nat) : Array Value := ((List.replicate n (Value.int .i64 0))).toArray
set_option maxRecDepth 100000 in
theorem make_zeros (n : Nat) (hn : n ≤ 12) (W : World) : (Instr.makeSlice 23 (.int .i64 (n : Int)) (.int .i64 (n : Int))).run Try.prog W = .ok (.slice (some ⟨W.heap.size, 0, none⟩) n n) (W.alloc (.cells (zI n) 3)) := by
  rcases (by omega : n = 0 ∨ n = 1 ∨ n = 2 ∨ n = 3 ∨ n = 4 ∨ n = 5 ∨ n = 6 ∨ n = 7 ∨ n = 8 ∨ n = 9 ∨ n = 10 ∨ n = 11 ∨ n = 12) with rfl | rfl | rfl | rfl | rfl | rfl | rfl | rfl | rfl | rfl | rfl | rfl | rfl <;> kernel_rfl
theorem zI_ints {w : World} {g n : Nat} (h : Has w g (zI n) 3) (hn : n ≤ 1000) : IntS w (some ⟨g, 0, none⟩) (List.replicate n 0) :=
  ⟨by simp; omega, .inr ⟨g, 0, rfl, fun i hi => by rw [Nat.zero_add]; exact h.cell (by unfold zI; simp at hi; simp [hi])⟩⟩
theorem pgS_one {w : World} {g : Nat} {a : Option Addr} {z : List Ev} {c : Nat} {T : TypeId} (h : Has w g #[.slice a z.length c] T) (hz : EvS w a z) : PgS w (some ⟨g, 0, none⟩) [z] :=
  ⟨by simp, .inr ⟨g, 0, rfl, fun t ht => by
    obtain rfl : t = 0 := by simpa using ht
    exact ⟨a, c, h.cell rfl, hz⟩⟩⟩
theorem run_one (z : List Ev) (n : Nat) (hn : n = z.length) (a ap : Option Addr) (c cp : Nat) (w : World) (h : PgS w a [z]) (hq : IntS w ap (List.replicate n 0)) :
    Calls Try.prog 17 #[.slice a 1 c, .slice ap n cp] w (RunPost [z] (List.replicate z.length 0) w) := by
  subst hn
  have := run_any [z] (List.replicate z.length 0) a ap c cp w h hq
  rw [List.length_replicate] at this
  exact this

set_option maxRecDepth 100000 in
set_option maxHeartbeats 8000000 in
theorem progOne_walk (a : Option Addr) (z : List Ev) (c : Nat) (w : World) (hf : EvS w a z ∧ z.length ≤ c ∧ z.length * 24 ≤ 140737488351232 ∧ ∀ e ∈ z, I64 e.k ∧ I64 e.t ∧ I64 e.o) :
    Calls Try.prog 5 #[.slice a z.length c] w fun e w' => e = .returned (.bool true) ∧ Below w.heap.size w w' := by
  obtain ⟨h, _, _, hI⟩ := hf
  have HI := Lib.hid hI
  clear hI
  by_cases h12 : z.length ≤ 12
  · have g1 : decide ((z.length : Int) > 12) = false := decide_eq_false (by omega)
    have g2 : decide (12 < z.length) = false := decide_eq_false (by omega)
    have hmk := make_zeros z.length h12
    go_enter Try.func5, Try.ntmps5
    go_wp2_with fail
    refine (ran_any _).mono ?_
    rintro r w1 ⟨rfl, hb1⟩
    have hE1 := h.below hb1
    go_wp2_with fail
    have hP : PgS ((w1.alloc (.cells #[.slice a z.length c] 40)).alloc (.cells (zI z.length) 3)) (some ⟨w1.heap.size, 0, none⟩) [z] :=
      pgS_one (c := c) (T := 40) ((Has.new w1 _ _).alloc _) (hE1.below (((Below.refl _ _).alloc (Nat.le_refl _) _).alloc (by simp) _))
    have hQ : IntS ((w1.alloc (.cells #[.slice a z.length c] 40)).alloc (.cells (zI z.length) 3)) (some ⟨w1.heap.size + 1, 0, none⟩) (List.replicate z.length 0) :=
      zI_ints ((Has.new (w1.alloc _) _ _).at (by simp)) (by omega)
    have hb0 : Below w.heap.size w ((w1.alloc (.cells #[.slice a z.length c] 40)).alloc (.cells (zI z.length) 3)) := (hb1.alloc hb1.size _).alloc (by have := hb1.size; simp; omega) _
    refine (run_one z z.length rfl _ _ 1 z.length _ hP hQ).mono ?_
    rintro r w2 ⟨a2, c2, _, rfl, _, hk⟩
    rw [List.length_replicate]
    have hb2 := hb0.trans (hk.mono hb0.size)
    have HS := Lib.hid (endR_size [z] (List.replicate z.length 0))
    have H1 := Lib.hid (endR_one [z] (List.replicate z.length 0))
    have hs2 := hb2.size
    clear hP hQ hb0 hk hE1 hmk
    by_cases he : errR [z] z.length = 0
    · have hX : chkP [z] = 0 := by
        unfold errR at he
        by_cases c : chkP [z] = 0
        · exact c
        · rw [if_neg c] at he; exact absurd he c
      have hO := chkP_ok hX
      obtain ⟨hd, hst⟩ := one_end hO
      have hE : endR [z] (List.replicate z.length 0) = endC (runP [z] (List.replicate z.length 0)).1 (!(oneF z).2) (oneF z).2 := by unfold endR; rw [List.length_replicate, if_pos he, hd, hst]
      have c18 : (endR [z] (List.replicate z.length 0))[18]? = some (.bool (!(oneF z).2)) := by rw [hE, endC_get _ _ _ (by omega)]; rfl
      have c19 : (endR [z] (List.replicate z.length 0))[19]? = some (.bool (oneF z).2) := by rw [hE, endC_get _ _ _ (by omega)]; rfl
      rw [he]
      have C18 := Lib.hid c18
      have C19 := Lib.hid c19
      clear he hX hO hd hst hE c18 c19
      generalize endR [z] (List.replicate z.length 0) = Y at *
      generalize evR [z] (List.replicate z.length 0) = L at *
      have hmm := @run_makeMap Try.prog
      go_wp2_with (refine wpList_store_row rfl endT _ _ rfl w2.heap.size Y rfl rfl endT _ ((Has.new w2 (endC PS.zero false false) endT)).out (by rw [HS.out]; rfl) (by rw [HS.out, endC_size]) H1.out ?_
                   generalize hWx : World.setRow _ _ _ = W3
                   have hZ3 : Has W3 w2.heap.size Y endT := by rw [← hWx]; exact (Has.new w2 (endC PS.zero false false) endT).setRow
                   have hk3 : Below w2.heap.size w2 W3 := by rw [← hWx]; exact below_setRow ((Below.refl _ _).alloc (Nat.le_refl _) _) (Nat.le_refl _)
                   have hb3 := hb2.trans (hk3.mono hb2.size)
                   clear hWx hk3 hb2)
      have hM4 := MapB.made W3
      have hZ4 := hZ3.alloc (.map #[] 0)
      have hb4 := hb3.alloc hb3.size (.map #[] 0)
      have hYm : w2.heap.size ≠ W3.heap.size := by have := hZ3.lt; omega
      have hs3 : w.heap.size ≤ W3.heap.size := hb3.size
      clear hZ3 hmm
      generalize W3.alloc (.map #[] 0) = W4 at *
      generalize W3.heap.size = mb at *
      generalize w2.heap.size = Yb at *
      clear hb3
      go_loopw [7, 30] (fun v i wr => ∃ k n : Nat, k ≤ z.length ∧ n ≤ k ∧ i = .int .i64 k ∧ v = .bool (oneF (z.take k)).2 ∧ MapB wr mb n (oneF (z.take k)).1 ∧ Has wr Yb Y endT ∧ Below w.heap.size w wr) (fun _ i _ => z.length - (intOf i).toNat)
      case atStart => exact ⟨0, 0, Nat.zero_le _, Nat.le_refl _, rfl, rfl, hM4, hZ4, hb4⟩
      case round =>
        clear hM4 hZ4 hb4
        obtain ⟨k, n, hk, hn, rfl, rfl, hM, hZ, hb⟩ := hrel
        by_cases hlt : k < z.length
        · obtain ⟨b, o, rfl, d0, d1, d2⟩ := (h.below hb).at hlt
          have hs : oneF (z.take (k + 1)) = oneS (oneF (z.take k)) z[k] := by rw [List.take_succ_eq_append_getElem hlt, oneF_snoc]
          have hI := HI.out _ (List.getElem_mem hlt)
          generalize z[k] = x at *
          generalize oneF (z.take k) = f at *
          obtain ⟨f, q0⟩ := f
          simp only at hM
          have k0 : (0 : Int) ≤ k := by omega
          have k1 : (k : Int) < z.length := by omega
          have HSS := Lib.hid hs
          have hN := Has.new wr (evC x) 42
          have hM1 := hM.below ((Below.refl _ _).alloc (Nat.le_refl _) (.cells (evC x) 42))
          have hZ1 := hZ.alloc (.cells (evC x) 42)
          have hb1' := hb.alloc hb.size (.cells (evC x) 42)
          have hI2 := Lib.hid hI.2.1
          clear hs hI hM hZ
          go_upto_region 13 with fail
          clear d0 d1 d2
          generalize wr.alloc (.cells (evC x) 42) = w5 at *
          have hEm : wr.heap.size ≠ mb := by
            intro e
            obtain ⟨D, hD, _⟩ := hM1.out
            obtain ⟨es, cl, hh, _⟩ := hD
            have := hN.out
            rw [e, hh] at this
            cases this
          generalize wr.heap.size = E at *
          clear hb
          have x0 : w5.cell? ⟨E, 0, none⟩ = some (.int .i64 x.k) := hN.cell rfl
          have x1 : w5.cell? ⟨E, 1, none⟩ = some (.int .i64 x.t) := hN.cell rfl
          have hlook := hM1.look hI2.out
          obtain ⟨qh, hqh⟩ : ∃ qh, f x.t = qh := ⟨_, rfl⟩
          rw [hqh] at hlook
          have e7 : (x.k == 7) = decide (x.k = 7) := rfl
          have HSo : Hid (oneF (z.take (k + 1)) = (oneH (f, q0) x, q0 || decide (x.k = 7) || (decide (x.k = 4) && qh))) := Lib.hid (by
            rw [HSS.out]; unfold oneS oneW; rw [← hqh]; rfl)
          have hn63 : n < maxLen := by unfold maxLen; omega
          clear HSS hqh e7
          rcases (by omega : x.k = 7 ∨ x.k = 4 ∨ x.k = 5 ∨ (x.k ≠ 7 ∧ x.k ≠ 4 ∧ x.k ≠ 5)) with hk7 | hk4 | hk5 | ⟨n7, n4, n5⟩
          · have HS2 : Hid (oneF (z.take (k + 1)) = (f, true)) := Lib.hid (by rw [HSo.out, hk7]; unfold oneH; rw [if_neg (by omega)]; simp)
            have r7 : (x.k == 7) = true := beq_iff_eq.2 hk7
            have r4 : (x.k == 4) = false := beq_eq_false_iff_ne.2 (by omega)
            have r5 : (x.k == 5) = false := beq_eq_false_iff_ne.2 (by omega)
            clear HSo hk7
            cases q0
            all_goals
              go_wp2
              go_roundw
              case rel => exact ⟨k + 1, n, by omega, by omega, by go_num, by rw [HS2.out], by rw [HS2.out]; exact hM1, hZ1, hb1'⟩
              case measure => (simp [intOf]; try omega)
          · have HS2 : Hid (oneF (z.take (k + 1)) = (heldU f x.t true, q0 || qh)) := Lib.hid (by rw [HSo.out, hk4]; unfold oneH; rw [if_pos (Or.inl hk4), hk4]; simp)
            have r7 : (x.k == 7) = false := beq_eq_false_iff_ne.2 (by omega)
            have r4 : (x.k == 4) = true := beq_iff_eq.2 hk4
            have r5 : (x.k == 5) = false := beq_eq_false_iff_ne.2 (by omega)
            obtain ⟨w6, hput, hM6, hg6⟩ := hM1.put hn63 hI2.out true
            have hZ6 := hZ1.grown hg6 (by intro e; exact hYm (Option.some.inj e))
            have hb6 := hb1'.grown hg6 (by have := hM1.lt; omega) (by intro k hk; cases hk; exact hs3)
            have hM7 : MapB w6 mb (n + 1) (heldU f x.t true) := hM6
            clear HSo hk4 hM1 hM6 hZ1 hb1' hg6
            cases q0
            all_goals
              cases qh
              all_goals
                go_wp2
                go_roundw
                case rel => exact ⟨k + 1, n + 1, by omega, by omega, by go_num, by rw [HS2.out]; rfl, by rw [HS2.out]; exact hM7, hZ6, hb6⟩
                case measure => (simp [intOf]; try omega)
          · have HS2 : Hid (oneF (z.take (k + 1)) = (heldU f x.t false, q0)) := Lib.hid (by rw [HSo.out, hk5]; unfold oneH; rw [if_pos (Or.inr hk5), hk5]; simp)
            have r7 : (x.k == 7) = false := beq_eq_false_iff_ne.2 (by omega)
            have r4 : (x.k == 4) = false := beq_eq_false_iff_ne.2 (by omega)
            have r5 : (x.k == 5) = true := beq_iff_eq.2 hk5
            obtain ⟨w6, hput, hM6, hg6⟩ := hM1.put hn63 hI2.out false
            have hZ6 := hZ1.grown hg6 (by intro e; exact hYm (Option.some.inj e))
            have hb6 := hb1'.grown hg6 (by have := hM1.lt; omega) (by intro k hk; cases hk; exact hs3)
            have hM7 : MapB w6 mb (n + 1) (heldU f x.t false) := hM6
            clear HSo hk5 hM1 hM6 hZ1 hb1' hg6
            cases q0
            all_goals
              go_wp2
              go_roundw
              case rel => exact ⟨k + 1, n + 1, by omega, by omega, by go_num, by rw [HS2.out], by rw [HS2.out]; exact hM7, hZ6, hb6⟩
              case measure => (simp [intOf]; try omega)
          · have HS2 : Hid (oneF (z.take (k + 1)) = (f, q0)) := Lib.hid (by rw [HSo.out]; unfold oneH; rw [if_neg (by omega), decide_eq_false n7, decide_eq_false n4]; simp)
            have r7 : (x.k == 7) = false := beq_eq_false_iff_ne.2 n7
            have r4 : (x.k == 4) = false := beq_eq_false_iff_ne.2 n4
            have r5 : (x.k == 5) = false := beq_eq_false_iff_ne.2 n5
            clear HSo n7 n4 n5
            cases q0
            all_goals
              go_wp2
              go_roundw
              case rel => exact ⟨k + 1, n, by omega, by omega, by go_num, by rw [HS2.out], by rw [HS2.out]; exact hM1, hZ1, hb1'⟩
              case measure => (simp [intOf]; try omega)
        · obtain rfl : k = z.length := by omega
          rw [List.take_length] at hM ⊢
          have d18 : wr.cell? ⟨Yb, 18, none⟩ = some (.bool (!(oneF z).2)) := hZ.cell C18.out
          have d19 : wr.cell? ⟨Yb, 19, none⟩ = some (.bool (oneF z).2) := hZ.cell C19.out
          clear C18 C19 hM hZ
          generalize (oneF z).2 = q at *
          cases q
          all_goals
            go_wp2
            go_ret
            exact ⟨rfl, hb⟩
    · have r1 : (errR [z] z.length == 0) = false := beq_eq_false_iff_ne.2 he
      have r2 : (errR [z] z.length != 0) = true := by simp [bne, r1]
      generalize errR [z] z.length = X at *
      clear he
      generalize endR [z] (List.replicate z.length 0) = Y at *
      generalize evR [z] (List.replicate z.length 0) = L at *
      go_wp2_with (refine wpList_store_row rfl endT _ _ rfl w2.heap.size Y rfl rfl endT _ ((Has.new w2 (endC PS.zero false false) endT)).out (by rw [HS.out]; rfl) (by rw [HS.out, endC_size]) H1.out ?_
                   generalize hWx : World.setRow _ _ _ = W3
                   have hk3 : Below w2.heap.size w2 W3 := by rw [← hWx]; exact below_setRow ((Below.refl _ _).alloc (Nat.le_refl _) _) (Nat.le_refl _)
                   have hb3 := hb2.trans (hk3.mono hb2.size)
                   clear hWx)
      go_ret
      exact ⟨rfl, hb3⟩
  · have g1 : decide ((z.length : Int) > 12) = true := decide_eq_true (by omega)
    have g2 : decide (12 < z.length) = true := decide_eq_true (by omega)
    go_enter Try.func5, Try.ntmps5
    go_wp2_with fail
    refine (ran_any _).mono ?_
    rintro r w1 ⟨rfl, hb1⟩
    go_wp2
    go_ret
    exact ⟨rfl, hb1⟩

/-! The frame of the law ProgOne, by program. -/
set_option maxRecDepth 100000 in
theorem progOne_lifted (os : Os) (started : os.Started) (H : Type) (enc : TypeId × Value → H) :
    ReturnsInHanded {} Try.checked os 5 .any (Rows.progOneSpec.pre6 enc Try.prog Try.f5 Rows.progOneRow.domain false) (Rows.progOneSpec.post enc Try.prog Try.f5 false true false false) := by
  refine returnsInHanded_of_change_shaped (C := Try.checked) frame_own started (by kernel_rfl) Try.func5
    (ChangeSpec.witness6 (enc := enc) (C := Try.checked) false ⟨#[], #[.slice none 0 0], []⟩ 8 (by kernel_rfl) (by kernel_rfl) (by kernel_rfl) (by kernel_rfl)) ?_
  intro W base args ds gs before hval0 hW hcnd hsz hshaped hroom
  clear hcnd hshaped
  have hval : ∀ (j : Nat) t v, Try.f5.params[j]? = some t → args[j]? = some v → Value.okWide Try.prog W .any base t v := hval0
  have hW' := hW
  obtain ⟨p, q, hA0, hV, rfl, hfz, hnd⟩ := hW
  have hA : DataW.TrodAll enc Try.prog W 0 (fun _ => true) true Try.f5.params.toList args.toList ds p := hA0
  rw [Try.params5] at hA hval
  obtain ⟨v0, vs0, d0, ds0, p0, q0, hargs, rfl, rfl, h0, r0⟩ := trodAll_cons hA
  obtain ⟨rfl, rfl, rfl⟩ := trodAll_nil r0
  obtain rfl : args = #[v0] := by cases args; simp_all
  obtain ⟨rfl, rfl⟩ := trodVars_none hV
  have k0 := h0
  have lt0 : ∀ x ∈ p0, x.block < W.heap.size := by obtain ⟨m, hm⟩ := k0; exact DataW.trod_lt m _ _ _ hm
  obtain ⟨a0, z0, c0, rfl, w0⟩ := open_ops (hval 0 40 v0 rfl rfl) h0 (fun els sp hd => sized_slice hsz (j := 0) rfl (by rw [hd]; rfl) Try.underlying40)
  clear hA0 hval0
  refine (progOne_walk a0 z0 c0 W w0).mono fun e W' ⟨he, bel⟩ => ?_
  subst he
  exact ⟨_, rfl, _, _, _, [], _, [], hW', trodAll_mk1 (shut_bool Try.underlying4 _), (trodAll_cons_mk (Below.trod frame_laid (by kernel_rfl) (of_decide_eq_true (by kernel_rfl)) k0 bel lt0) trodAll_mk0), rfl, bel.frame _, fun h => by cases h⟩

theorem progOne_over : Rows.progOneRow.holds Try.pinned (OpenSpec.ofChange Rows.progOneSpec) :=
  OpenClaim.holds_of_wide 5 Try.f5 rfl rfl rfl rfl rfl rfl rfl ⟨rfl, rfl, rfl, rfl, rfl⟩ rfl rfl rfl rfl rfl (by kernel_rfl) Try.func5 (by kernel_rfl)
    (of_decide_eq_true (by kernel_rfl)) (by unfold Func.isWrapper; first | (rw [if_pos (by decide +kernel)]; kernel_rfl) | (rw [if_neg (by decide +kernel)]; exact ⟨rfl, rfl⟩))
    (fun os started H enc _ => progOne_lifted os started H enc)

/-- The statement. -/
theorem progOne_holds : Rows.ProgOneSaid := progOne_over

end Go.Proofs.Ythfeakfakjecoaa
