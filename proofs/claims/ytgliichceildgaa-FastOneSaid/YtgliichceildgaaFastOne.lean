/- FastOne: for variables that are read by one thread only, an epoch suffices: for every trace. -/
import Derived.Test.YtgliichceildgaaRows
import Derived.Test.YtgliichceildgaaFrS
import Derived.Test.YtgliichceildgaaTwo
import Derived.Test.YtgliichceildgaaOpenE
namespace Go.Proofs.Ytgliichceildgaa
open Go.ChangeShapes Go.WideShapes Go.ChangeAt Go.RowKit

theorem slow_m (l : List Ev) (n : Nat) (hn : l.length = n) (a : Option Addr) (c : Nat) (w : World) (h : EvS w a l) (he : (played l).2.2 = 0) :
    Calls Try.prog 28 #[.slice a n c] w fun r w' => r = .returned (.tuple #[.int .i64 (slowUp l 8), .int .i64 0]) ∧ Below w.heap.size w w' := by
  subst hn; exact fastSlow_ok l a c w h he
def isOwn (e : Ev) : Bool := !decide (e.k = 1) || decide (e.t = e.o.tmod 6)
theorem own_slow {z : List Ev} (k : Nat) (he : (played (fK isOwn z k)).2.2 = 0) : slowUp (fK isOwn z k) 8 = 0 := by
  refine slowUp_one he (fun e hm hk => ?_) 8
  have h1 := fK_mem hm
  have h2 := isEv_iff.1 ((played_evs he).2 e hm)
  simp [isOwn, hk] at h1
  rw [h1, Int.tmod_eq_emod_of_nonneg h2.2.2.1]

set_option maxRecDepth 100000 in
set_option maxHeartbeats 8000000 in
theorem fastOne_walk (a : Option Addr) (z : List Ev) (c : Nat) (w : World) (hf : EvS w a z ∧ z.length ≤ c ∧ z.length * 24 ≤ 140737488351232 ∧ ∀ e ∈ z, I64 e.k ∧ I64 e.t ∧ I64 e.o) :
    Calls Try.prog 12 #[.slice a z.length c] w fun e w' => e = .returned (.bool true) ∧ Below w.heap.size w w' := by
  obtain ⟨h, hzc, hz24, h64⟩ := hf
  obtain ⟨i0, hi, hz0, hz1, hz2⟩ := info_parts infoE
  go_enter Try.func12, Try.ntmps12
  go_wp2_with fail
  refine (fasted_any _).mono ?_
  rintro r w1 ⟨rfl, hb⟩
  replace h := h.below hb
  go_wp2
  go_loopw [3, 14] (fun v i wr => ∃ k : Nat, k ≤ z.length ∧ i = .int .i64 k ∧ wr.ownsRow w1.heap.size 34 3 v (fK isOwn z k).length (evL (fK isOwn z k)) ∧ Below w1.heap.size w1 wr) (fun _ i _ => z.length - (intOf i).toNat)
  case atStart => exact ⟨0, Nat.zero_le _, rfl, World.ownsRow_nil _ _ _ _, Below.refl _ _⟩
  case round =>
    obtain ⟨k, hk, rfl, hv, hb4⟩ := hrel
    by_cases hlt : k < z.length
    · obtain ⟨b', o', rfl, d0, d1, d2⟩ := (h.below hb4).at hlt
      have y1 := fK_yes (p := isOwn) hlt
      have n1 := fK_no (p := isOwn) hlt
      have l1 := fK_len isOwn z k
      have h6 := h64 _ (List.getElem_mem hlt)
      generalize z[k] = x at *
      have Y1 := Lib.hid y1
      have N1 := Lib.hid n1
      have hN := Has.new wr (evC x) 34
      have hv1 := hv.alloc (.cells (evC x) 34)
      have hb5 := hb4.alloc hb4.size (.cells (evC x) 34)
      have hs5 := hb4.size
      obtain ⟨x0, x1, x2⟩ : (wr.alloc (.cells (evC x) 34)).cell? ⟨wr.heap.size, 0, none⟩ = some (.int .i64 x.k) ∧ (wr.alloc (.cells (evC x) 34)).cell? ⟨wr.heap.size, 1, none⟩ = some (.int .i64 x.t) ∧ (wr.alloc (.cells (evC x) 34)).cell? ⟨wr.heap.size, 2, none⟩ = some (.int .i64 x.o) := ⟨hN.cell rfl, hN.cell rfl, hN.cell rfl⟩
      obtain ⟨q1, hq1⟩ : ∃ q, (x.k != 1) = q := ⟨_, rfl⟩
      obtain ⟨q2, hq2⟩ : ∃ q, (x.t == x.o.tmod 6) = q := ⟨_, rfl⟩
      have hw : IntKind.i64.wrap (x.o.tmod 6) = x.o.tmod 6 := IntWalk.i64_in _ (by have := Int.tmod_lt_of_pos x.o (show (0:Int) < 6 by decide); have := Int.lt_tmod_of_pos x.o (show (0:Int) < 6 by decide); omega)
      have hio : isOwn x = (q1 || q2) := by rw [← hq1, ← hq2]; by_cases e : x.k = 1 <;> by_cases e2 : x.t = x.o.tmod 6 <;> simp [isOwn, e, e2]
      have HIO := Lib.hid hio
      clear y1 n1 hv hb4 hio h6
      cases hqq : (q1 || q2)
      · have HR1 := Lib.hid (N1.out (by rw [HIO.out, hqq]))
        obtain ⟨rfl, rfl⟩ : q1 = false ∧ q2 = false := by revert hqq; cases q1 <;> cases q2 <;> simp
        clear Y1 N1 hqq HIO
        go_wp2
        go_roundw
        case rel => exact ⟨k + 1, by omega, by go_num, (by rw [HR1.out]; exact hv1), hb5⟩
        case measure => (simp [intOf]; try omega)
      · have HR1 := Lib.hid (Y1.out (by rw [HIO.out, hqq]))
        have hq : (if q1 then true else q2) = true := by revert hqq; cases q1 <;> simp
        clear Y1 N1 HIO
        have hT := Has.new (wr.alloc (.cells (evC x) 34)) (evC x) 34
        rw [World.size_alloc] at hT
        have hb6 := hb5.alloc (by have := hb5.size; simp at this ⊢; omega) (.cells (evC x) 34)
        cases q1
        · obtain rfl : q2 = true := by revert hqq; cases q2 <;> simp
          clear hqq hq
          go_wp2_with (at_builtin; refine app_list _ rfl (.tmp 29) (.tmp 31) 22 rfl Try.underlying22 hi hz0 hz1 hz2 rfl (by decide) rfl (hv1.alloc _) rfl (news := evL [x]) ⟨rfl, .inr ⟨_, rfl, fun j u hu => hT.cell_add (by simpa [evL] using hu)⟩⟩ (by intro q hq; simp [evL] at hq; rcases hq with rfl | rfl | rfl <;> rfl) ?c3 ?c4 ?c5 ?_)
          case c3 => unfold maxLen; omega
          case c4 => omega
          case c5 => have := hb6.size; simp at this ⊢; omega
          intro v6 w6 hAp
          have hb7 := hAp.below (hv1.alloc _) hb6 (by have := hb6.size; simp at this ⊢; omega)
          have hv6 : w6.ownsRow w1.heap.size 34 3 v6 (fK isOwn z (k + 1)).length (evL (fK isOwn z (k + 1))) := by
            have := hAp.own
            rw [HR1.out, evL_append _ [x], List.length_append]
            exact this
          clear hAp hT hb6 x0 x1 x2 hN hv1 hb5
          go_wp2
          go_roundw
          case rel => exact ⟨k + 1, by omega, by go_num, hv6, hb7⟩
          case measure => (simp [intOf]; try omega)
        · clear hqq hq
          go_wp2_with (at_builtin; refine app_list _ rfl (.tmp 29) (.tmp 31) 22 rfl Try.underlying22 hi hz0 hz1 hz2 rfl (by decide) rfl (hv1.alloc _) rfl (news := evL [x]) ⟨rfl, .inr ⟨_, rfl, fun j u hu => hT.cell_add (by simpa [evL] using hu)⟩⟩ (by intro q hq; simp [evL] at hq; rcases hq with rfl | rfl | rfl <;> rfl) ?c3 ?c4 ?c5 ?_)
          case c3 => unfold maxLen; omega
          case c4 => omega
          case c5 => have := hb6.size; simp at this ⊢; omega
          intro v6 w6 hAp
          have hb7 := hAp.below (hv1.alloc _) hb6 (by have := hb6.size; simp at this ⊢; omega)
          have hv6 : w6.ownsRow w1.heap.size 34 3 v6 (fK isOwn z (k + 1)).length (evL (fK isOwn z (k + 1))) := by
            have := hAp.own
            rw [HR1.out, evL_append _ [x], List.length_append]
            exact this
          clear hAp hT hb6 x0 x1 x2 hN hv1 hb5
          go_wp2
          go_roundw
          case rel => exact ⟨k + 1, by omega, by go_num, hv6, hb7⟩
          case measure => (simp [intOf]; try omega)
    · obtain rfl : k = z.length := by omega
      have l1 := fK_len isOwn z z.length
      have hz := own_slow (z := z) z.length
      generalize fK isOwn z z.length = M at *
      have hex : ∃ a2 c2, u3 = .slice a2 M.length c2 ∧ EvS wr a2 M := by
        obtain ⟨a, c, h1, h2, _⟩ := evS_own hv (by omega)
        exact ⟨a, c, h1, h2⟩
      obtain ⟨a3, c3, rfl, hA⟩ := hex
      replace hb := hb.trans (hb4.mono hb.size)
      clear hv hb4
      by_cases e1 : (played M).2.2 = 0
      · have hz := hz e1
        have HE := Lib.hid e1
        go_wp2_with fail
        refine (fastSlow_ok M a3 c3 _ hA e1).mono ?_
        rintro r w3 ⟨rfl, hk⟩
        rw [hz]
        replace hb := hb.trans (hk.mono hb.size)
        replace hA := hA.below hk
        clear hk e1 hz
        go_wp2_with fail
        refine (check_any M a3 c3 _ hA).mono ?_
        rintro r w5 ⟨rfl, hk⟩
        rw [HE.out]
        replace hb := hb.trans (hk.mono hb.size)
        clear hk
        go_wp2
        go_ret
        exact ⟨rfl, hb⟩
      · go_wp2_with fail
        refine (fastSlow_err M a3 c3 _ hA e1).mono ?_
        rintro r w3 ⟨rfl, hk⟩
        replace hb := hb.trans (hk.mono hb.size)
        replace hA := hA.below hk
        clear hk hz
        go_wp2_with fail
        refine (check_any M a3 c3 _ hA).mono ?_
        rintro r w5 ⟨rfl, hk⟩
        replace hb := hb.trans (hk.mono hb.size)
        have he : ((played M).2.2 == (played M).2.2) = true := by simp
        clear hk
        go_wp2
        go_ret
        exact ⟨rfl, hb⟩
/-! The frame of the law FastOne, by program. -/
set_option maxRecDepth 100000 in
theorem fastOne_lifted (os : Os) (started : os.Started) (H : Type) (enc : TypeId × Value → H) :
    ReturnsInHanded {} Try.checked os 12 .any (Rows.fastOneSpec.pre6 enc Try.prog Try.f12 Rows.fastOneRow.domain false) (Rows.fastOneSpec.post enc Try.prog Try.f12 false true false false) := by
  refine returnsInHanded_of_change_shaped (C := Try.checked) frame_own started (by kernel_rfl) Try.func12
    (ChangeSpec.witness6 (enc := enc) (C := Try.checked) false ⟨#[], #[.slice none 0 0], []⟩ 8 (by kernel_rfl) (by kernel_rfl) (by kernel_rfl) (by kernel_rfl)) ?_
  intro W base args ds gs before hval0 hW hcnd hsz hshaped hroom
  clear hcnd hshaped
  have hval : ∀ (j : Nat) t v, Try.f12.params[j]? = some t → args[j]? = some v → Value.okWide Try.prog W .any base t v := hval0
  have hW' := hW
  obtain ⟨p, q, hA0, hV, rfl, hfz, hnd⟩ := hW
  have hA : DataW.TrodAll enc Try.prog W 0 (fun _ => true) true Try.f12.params.toList args.toList ds p := hA0
  rw [Try.params12] at hA hval
  obtain ⟨v0, vs0, d0, ds0, p0, q0, hargs, rfl, rfl, h0, r0⟩ := trodAll_cons hA
  obtain ⟨rfl, rfl, rfl⟩ := trodAll_nil r0
  obtain rfl : args = #[v0] := by cases args; simp_all
  obtain ⟨rfl, rfl⟩ := trodVars_none hV
  have k0 := h0
  have lt0 : ∀ x ∈ p0, x.block < W.heap.size := by obtain ⟨m, hm⟩ := k0; exact DataW.trod_lt m _ _ _ hm
  obtain ⟨a0, z0, c0, rfl, w0⟩ := open_evs (hval 0 22 v0 rfl rfl) h0 (fun els sp hd => sized_slice hsz (j := 0) rfl (by rw [hd]; rfl) Try.underlying22)
  clear hA0 hval0
  refine (fastOne_walk a0 z0 c0 W w0).mono fun e W' ⟨he, bel⟩ => ?_
  subst he
  exact ⟨_, rfl, _, _, _, [], _, [], hW', trodAll_mk1 (shut_bool Try.underlying4 _), (trodAll_cons_mk (Below.trod frame_laid (by kernel_rfl) (of_decide_eq_true (by kernel_rfl)) k0 bel lt0) trodAll_mk0), rfl, bel.frame _, fun h => by cases h⟩

theorem fastOne_over : Rows.fastOneRow.holds Try.pinned (OpenSpec.ofChange Rows.fastOneSpec) :=
  OpenClaim.holds_of_wide 12 Try.f12 rfl rfl rfl rfl rfl rfl rfl ⟨rfl, rfl, rfl, rfl, rfl⟩ rfl rfl rfl rfl rfl (by kernel_rfl) Try.func12 (by kernel_rfl)
    (of_decide_eq_true (by kernel_rfl)) (by unfold Func.isWrapper; first | (rw [if_pos (by decide +kernel)]; kernel_rfl) | (rw [if_neg (by decide +kernel)]; exact ⟨rfl, rfl⟩))
    (fun os started H enc _ => fastOne_lifted os started H enc)

/-- The statement. -/
theorem fastOne_holds : Rows.FastOneSaid := fastOne_over

end Go.Proofs.Ytgliichceildgaa
