/- StampPasses: a thread that acquires a lock knows what the thread that released it last knew, and a thread that joins another one knows what that one knew: for every trace. -/
import Derived.Test.YtlphmkdlacnnoaaRows
import Derived.Test.YtlphmkdlacnnoaaStmE
import Derived.Test.YtlphmkdlacnnoaaOpenE
import Derived.Deep.DeepCutAuto
namespace Go.Proofs.Ytlphmkdlacnnoaa
open Go.ChangeShapes Go.WideShapes Go.ChangeAt Go.RowKit

theorem stampPasses_no (a : Option Addr) (z : List Ev) (c : Nat) (w : World) (h : EvS w a z) (he : (played z).2.2 ≠ 0) :
    Calls Try.prog 10 #[.slice a z.length c] w fun e w' => e = .returned (.bool true) ∧ Below w.heap.size w w' := by
  have e2 : ((played z).2.2 != 0) = true := by simpa using he
  have hm : mayB z = false := by simpa [mayB] using he
  go_enter Try.func10, Try.ntmps10
  go_wp2_with fail
  refine (stamped_any _).mono ?_
  rintro r w1 ⟨rfl, hb⟩
  go_wp2_with fail
  refine (stamps_err z a c _ (h.below hb) he).mono ?_
  rintro r w2 ⟨rfl, hk⟩
  replace hb := hb.trans (hk.mono hb.size)
  clear hk
  go_wp2_with fail
  refine (may_any z a c _ (h.below hb)).mono ?_
  rintro r w3 ⟨rfl, hk⟩
  rw [hm]
  go_wp2
  go_ret
  exact ⟨rfl, hb.trans (hk.mono hb.size)⟩

set_option maxRecDepth 100000 in
set_option maxHeartbeats 8000000 in
theorem stampPasses_ok (a : Option Addr) (z : List Ev) (c : Nat) (w : World) (h : EvS w a z) (he : (played z).2.2 = 0) :
    Calls Try.prog 10 #[.slice a z.length c] w fun e w' => e = .returned (.bool true) ∧ Below w.heap.size w w' := by
  have hbig := h.big
  have hl80 := (played_evs he).1
  have HE := Lib.hid he
  clear he
  go_enter Try.func10, Try.ntmps10
  go_wp2_with fail
  refine (stamped_any _).mono ?_
  rintro r w1 ⟨rfl, hb⟩
  go_wp2_with fail
  refine (stamps_ok z a c _ (h.below hb) HE.out).mono ?_
  rintro r w2 ⟨v, rfl, hown, hk⟩
  have hex : ∃ a2 c2, v = .slice a2 z.length c2 ∧ CkS w2 a2 (stampL z z.length) := by
    obtain ⟨a, c, h1, h2, _⟩ := ckS_own hown
    rw [stampL_length] at h1
    exact ⟨a, c, h1, h2⟩
  obtain ⟨a2, c2, rfl, hC⟩ := hex
  have hb2 := hb.trans (hk.mono hb.size)
  clear hk hb hown
  replace h := h.below hb2
  go_wp2
  go_loopw [35] (fun i wr => ∃ k : Nat, k ≤ z.length ∧ i = .int .i64 k ∧ Below w2.heap.size w2 wr) (fun i _ => z.length - (intOf i).toNat)
  case atStart => exact ⟨0, Nat.zero_le _, rfl, Below.refl _ _⟩
  case round =>
    obtain ⟨k, hk, rfl, hb4⟩ := hrel
    obtain ⟨wo, rfl⟩ : ∃ wo : World, wo = wr := ⟨_, rfl⟩
    by_cases hlt : k < z.length
    · obtain ⟨b', o', rfl, d0, d1, d2⟩ := (h.below hb4).at hlt
      have hy : evAt z k = z[k] := by simp [evAt, hlt]
      generalize z[k] = y at *
      have HY := Lib.hid hy
      clear hy
      have hN := Has.new wo (evC y) 30
      have hb5 := hb4.alloc hb4.size (.cells (evC y) 30)
      go_wp2
      clear d0 d1 d2
      go_loopw [41] (fun i wr => ∃ m : Nat, m ≤ k ∧ i = .int .i64 m ∧ Has wr wo.heap.size (evC y) 30 ∧ Below w2.heap.size w2 wr) (fun i _ => k - (intOf i).toNat)
      case atStart => exact ⟨0, Nat.zero_le _, rfl, hN, hb5⟩
      case round =>
        clear hb4 hb5 hN
        obtain ⟨m, hm, rfl, hN, hb4⟩ := hrel
        by_cases hml : m < k
        · obtain ⟨b2, o2, hbo, e0, e1, e2⟩ := (h.below hb4).at (show m < z.length by omega)
          cases hbo
          have hx : evAt z m = z[m] := by simp [evAt, show m < z.length by omega]
          generalize z[m] = x at *
          have HX := Lib.hid hx
          clear hx
          obtain ⟨g, rfl⟩ := hC.some (show 0 < z.length by omega)
          have k0 : (0 : Int) ≤ k := by omega
          have k1 : (k : Int) < z.length := by omega
          have m0 : (0 : Int) ≤ m := by omega
          have m1 : (m : Int) < z.length := by omega
          have y0 : wr.cell? ⟨wo.heap.size, 0, none⟩ = some (.int .i64 y.k) := hN.cell rfl
          have y1 : wr.cell? ⟨wo.heap.size, 1, none⟩ = some (.int .i64 y.t) := hN.cell rfl
          have y2 : wr.cell? ⟨wo.heap.size, 2, none⟩ = some (.int .i64 y.o) := hN.cell rfl
          have hyl := hN.lt
          have hN5 := hN.alloc (.cells (evC x) 30)
          have hb5 := hb4.alloc hb4.size (.cells (evC x) 30)
          go_upto_region 13 with fail
          clear y0 y1 y2 e0 e1 e2
          have hX5 := Has.new wr (evC x) 30
          have x0 : (wr.alloc (.cells (evC x) 30)).cell? ⟨wr.heap.size, 0, none⟩ = some (.int .i64 x.k) := hX5.cell rfl
          have x1 : (wr.alloc (.cells (evC x) 30)).cell? ⟨wr.heap.size, 1, none⟩ = some (.int .i64 x.t) := hX5.cell rfl
          have x2 : (wr.alloc (.cells (evC x) 30)).cell? ⟨wr.heap.size, 2, none⟩ = some (.int .i64 x.o) := hX5.cell rfl
          have y0 : (wr.alloc (.cells (evC x) 30)).cell? ⟨wo.heap.size, 0, none⟩ = some (.int .i64 y.k) := hN5.cell rfl
          have y1 : (wr.alloc (.cells (evC x) 30)).cell? ⟨wo.heap.size, 1, none⟩ = some (.int .i64 y.t) := hN5.cell rfl
          have y2 : (wr.alloc (.cells (evC x) 30)).cell? ⟨wo.heap.size, 2, none⟩ = some (.int .i64 y.o) := hN5.cell rfl
          generalize wr.alloc (.cells (evC x) 30) = w5 at *
          obtain ⟨q1, r1⟩ : ∃ q, (x.k == 4) = q := ⟨_, rfl⟩
          obtain ⟨q2, r2⟩ : ∃ q, (y.k == 3) = q := ⟨_, rfl⟩
          obtain ⟨q3, r3⟩ : ∃ q, (x.o == y.o) = q := ⟨_, rfl⟩
          obtain ⟨q4, r4⟩ : ∃ q, (x.k == 8) = q := ⟨_, rfl⟩
          obtain ⟨q5, r5⟩ : ∃ q, (y.k == 7) = q := ⟨_, rfl⟩
          obtain ⟨q6, r6⟩ : ∃ q, (y.k == 6) = q := ⟨_, rfl⟩
          obtain ⟨q7, r7⟩ : ∃ q, (x.t == y.o) = q := ⟨_, rfl⟩
          go_cut [9] (fun p wx => (∃ q : Bool, p = .bool q ∧ (q = true → dirE x y = true)) ∧ wx = w5)
          case first =>
            go_wp2
            all_goals
              go_meet
              refine ⟨⟨_, rfl, fun hq => ?_⟩, rfl⟩
              rw [dirE_iff]
              clear h hC hN5 hb5 hX5 x0 x1 x2 y0 y1 y2
              first
                | (simp only [*, beq_iff_eq, beq_eq_false_iff_ne, ne_eq, reduceCtorEq, Bool.false_eq_true] at r1 r2 r3 r4 r5 r6 r7; omega)
                | (simp_all only [beq_iff_eq, beq_eq_false_iff_ne, ne_eq, reduceCtorEq, Bool.false_eq_true]; omega)
                | (simp_all; try omega)
          case rest =>
            obtain ⟨⟨q, rfl, hq⟩, rfl⟩ := hcut
            clear x0 x1 x2 y0 y1 y2 r1 r2 r3 r4 r5 r6 r7
            cases q
            · clear hq
              go_wp2_with fail
              go_quiet (fail)
              go_wp2
              go_roundw
              case rel => exact ⟨m + 1, by omega, by go_num, hN5.drewN _, below_drewN hb5 _⟩
              case measure => (simp [intOf]; try omega)
            · have hd := hq rfl
              rw [← HX.out, ← HY.out] at hd
              have hcl : cle (stampOf z m) (stampOf z k) = true := cle_iff.2 fun τ _ => stamp_dir HE.out hml hlt hd τ
              have HCL := Lib.hid hcl
              clear hcl hd hq
              go_wp2_with fail
              have hb6 := hb5.drew
              have hN6 := hN5.drew
              go_region_held3 (fun W => Below wc.drew.heap.size wc.drew W ∧ SixAt W g (m * 6) (stampOf z m) ∧ SixAt W g (k * 6) (stampOf z k))
                (first | exact ⟨Below.refl _ _, (hC.below hb6).sixAt (by omega), (hC.below hb6).sixAt hlt⟩ | exact ⟨hk6, (hC.below hb7).sixAt (by omega), (hC.below hb7).sixAt hlt⟩)
                (first | (go_at_call 23; refine (within_any (stampOf z m) (stampOf z k) _).mono ?_; rintro r w6 ⟨rfl, hk6⟩; have hb7 := hb6.trans (hk6.mono hb6.size)))
              all_goals
                rename_i hS
                obtain ⟨hk7, _⟩ := hS
                rw [HCL.out]
                go_wp2
                go_roundw
                case rel => exact ⟨m + 1, by omega, by go_num, hN6.below hk7 hN6.lt, hb6.trans (hk7.mono hb6.size)⟩
                case measure => (simp [intOf]; try omega)
        · obtain rfl : m = k := by omega
          go_wp2
          go_roundw
          case rel => exact ⟨m + 1, by omega, by go_num, hb4⟩
          case measure => (simp [intOf]; try omega)
    · obtain rfl : k = z.length := by omega
      go_wp2
      go_ret
      exact ⟨rfl, hb2.trans (hb4.mono hb2.size)⟩

theorem stampPasses_walk (a : Option Addr) (z : List Ev) (c : Nat) (w : World) (hf : EvS w a z ∧ z.length ≤ c ∧ z.length * 24 ≤ 140737488351232 ∧ ∀ e ∈ z, I64 e.k ∧ I64 e.t ∧ I64 e.o) :
    Calls Try.prog 10 #[.slice a z.length c] w fun e w' => e = .returned (.bool true) ∧ Below w.heap.size w w' := by
  by_cases hm : (played z).2.2 = 0
  · exact stampPasses_ok a z c w hf.1 hm
  · exact stampPasses_no a z c w hf.1 hm
/-! The frame of the law StampPasses, by program. -/
set_option maxRecDepth 100000 in
theorem stampPasses_lifted (os : Os) (started : os.Started) (H : Type) (enc : TypeId × Value → H) :
    ReturnsInHanded {} Try.checked os 10 .any (Rows.stampPassesSpec.pre6 enc Try.prog Try.f10 Rows.stampPassesRow.domain false) (Rows.stampPassesSpec.post enc Try.prog Try.f10 false true false false) := by
  refine returnsInHanded_of_change_shaped (C := Try.checked) frame_own started (by kernel_rfl) Try.func10
    (ChangeSpec.witness6 (enc := enc) (C := Try.checked) false ⟨#[], #[.slice none 0 0], []⟩ 8 (by kernel_rfl) (by kernel_rfl) (by kernel_rfl) (by kernel_rfl)) ?_
  intro W base args ds gs before hval0 hW hcnd hsz hshaped hroom
  clear hcnd hshaped
  have hval : ∀ (j : Nat) t v, Try.f10.params[j]? = some t → args[j]? = some v → Value.okWide Try.prog W .any base t v := hval0
  have hW' := hW
  obtain ⟨p, q, hA0, hV, rfl, hfz, hnd⟩ := hW
  have hA : DataW.TrodAll enc Try.prog W 0 (fun _ => true) true Try.f10.params.toList args.toList ds p := hA0
  rw [Try.params10] at hA hval
  obtain ⟨v0, vs0, d0, ds0, p0, q0, hargs, rfl, rfl, h0, r0⟩ := trodAll_cons hA
  obtain ⟨rfl, rfl, rfl⟩ := trodAll_nil r0
  obtain rfl : args = #[v0] := by cases args; simp_all
  obtain ⟨rfl, rfl⟩ := trodVars_none hV
  have k0 := h0
  have lt0 : ∀ x ∈ p0, x.block < W.heap.size := by obtain ⟨m, hm⟩ := k0; exact DataW.trod_lt m _ _ _ hm
  obtain ⟨a0, z0, c0, rfl, w0⟩ := open_evs (hval 0 22 v0 rfl rfl) h0 (fun els sp hd => sized_slice hsz (j := 0) rfl (by rw [hd]; rfl) Try.underlying22)
  clear hA0 hval0
  refine (stampPasses_walk a0 z0 c0 W w0).mono fun e W' ⟨he, bel⟩ => ?_
  subst he
  exact ⟨_, rfl, _, _, _, [], _, [], hW', trodAll_mk1 (shut_bool Try.underlying4 _), (trodAll_cons_mk (Below.trod frame_laid (by kernel_rfl) (of_decide_eq_true (by kernel_rfl)) k0 bel lt0) trodAll_mk0), rfl, bel.frame _, fun h => by cases h⟩

theorem stampPasses_over : Rows.stampPassesRow.holds Try.pinned (OpenSpec.ofChange Rows.stampPassesSpec) :=
  OpenClaim.holds_of_wide 10 Try.f10 rfl rfl rfl rfl rfl rfl rfl ⟨rfl, rfl, rfl, rfl, rfl⟩ rfl rfl rfl rfl rfl (by kernel_rfl) Try.func10 (by kernel_rfl)
    (of_decide_eq_true (by kernel_rfl)) (by unfold Func.isWrapper; first | (rw [if_pos (by decide +kernel)]; kernel_rfl) | (rw [if_neg (by decide +kernel)]; exact ⟨rfl, rfl⟩))
    (fun os started H enc _ => stampPasses_lifted os started H enc)

/-- The statement. -/
theorem stampPasses_holds : Rows.StampPassesSaid := stampPasses_over

end Go.Proofs.Ytlphmkdlacnnoaa
