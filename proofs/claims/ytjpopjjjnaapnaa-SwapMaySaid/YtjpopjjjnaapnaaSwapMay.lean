/- SwapMay: a swapped trace is valid, and the events of each thread are unchanged: for every trace and every slice of numbers. -/
import Derived.Test.YtjpopjjjnaapnaaRows
import Derived.Test.YtjpopjjjnaapnaaSwpC
import Derived.Test.YtjpopjjjnaapnaaSwpM
import Derived.Test.YtjpopjjjnaapnaaHeld
import Derived.Test.YtjpopjjjnaapnaaOpenE
import Derived.Test.YtjpopjjjnaapnaaOpenI
import Derived.Deep.DeepCutAuto
namespace Go.Proofs.Ytjpopjjjnaapnaa
open Go.ChangeShapes Go.WideShapes Go.ChangeAt Go.RowKit

def isT (t : Nat) (e : Ev) : Bool := decide (e.t = t)
theorem held_same {z m : List Ev} (h : SwSame z m) (hz : (played z).2.2 = 0) {n : Nat} (hn : n < 6) : ∃ A : Int, heldV z n = (A, 0) ∧ heldV m n = (A, 0) := by
  refine ⟨((setN (ownB (played z).1 n) 5 : Nat) : Int), ?_, ?_⟩
  · unfold heldV
    rw [if_neg (fun e => e hz), if_pos (by omega)]
  · unfold heldV
    rw [if_neg (fun e => e h.ok), if_pos (by omega), h.st]
theorem eqEv_self (L : List Ev) (n m : Nat) (hn : L.length = n) (hm : L.length = m) (a a' : Option Addr) (c c' : Nat) (w : World) (h : EvS w a L) (h' : EvS w a' L) :
    Calls Try.prog 29 #[.slice a n c, .slice a' m c'] w fun e w' => e = .returned (.bool true) ∧ Below w.heap.size w w' := by
  subst hn; subst hm
  have := eqEv_any L L a a' c c' w h h'
  rwa [show eqB L L = true by simp [eqB]] at this
set_option maxRecDepth 100000 in
theorem swapMay_no (a a' : Option Addr) (z : List Ev) (l : List Int) (c c' : Nat) (w : World) (h : EvS w a z) (hm : mayB z = false) :
    Calls Try.prog 10 #[.slice a z.length c, .slice a' l.length c'] w fun e w' => e = .returned (.bool true) ∧ Below w.heap.size w w' := by
  go_enter Try.func10, Try.ntmps10
  go_wp2_with fail
  refine (swapped_any _).mono ?_
  rintro r w1 ⟨rfl, hb⟩
  go_wp2_with fail
  refine (may_any z a c _ (h.below hb)).mono ?_
  rintro r w2 ⟨rfl, hk⟩
  rw [hm]
  go_wp2
  go_ret
  exact ⟨rfl, hb.trans (hk.mono hb.size)⟩
set_option maxRecDepth 100000 in
set_option maxHeartbeats 8000000 in
theorem swapMay_ok (a a' : Option Addr) (z : List Ev) (l : List Int) (c c' : Nat) (w : World) (h : EvS w a z) (h' : IntS w a' l) (hm : mayB z = true) :
    Calls Try.prog 10 #[.slice a z.length c, .slice a' l.length c'] w fun e w' => e = .returned (.bool true) ∧ Below w.heap.size w w' := by
  have hp : (played z).2.2 = 0 := by simpa [mayB] using hm
  have hl80 := (played_evs hp).1
  obtain ⟨i0, hi, hz0, hz1, hz2⟩ := info_parts infoE
  have hss := swpL_same l hp
  have hml := hss.len
  have hmm : mayB (swpL z l) = true := by simp [mayB, hss.ok]
  have hhs := fun (n : Nat) (hn : n < 6) => held_same hss hp hn
  have hfl : ∀ n : Nat, fK (isT n) (swpL z l) z.length = fK (isT n) z z.length := fun n => by
    rw [← hml, fK_all, hml, fK_all]
    exact hss.fl n
  have HP := Lib.hid hp
  have HM := Lib.hid hm
  have HMM := Lib.hid hmm
  have HHS := Lib.hid hhs
  have HFL := Lib.hid hfl
  have HML := Lib.hid hml
  clear hss hmm hhs hfl hml hp hm
  go_enter Try.func10, Try.ntmps10
  go_wp2_with fail
  refine (swapped_any _).mono ?_
  rintro r w1 ⟨rfl, hb⟩
  go_wp2_with fail
  refine (may_any z a c _ (h.below hb)).mono ?_
  rintro r w2 ⟨rfl, hk⟩
  rw [HM.out]
  replace hb := hb.trans (hk.mono hb.size)
  replace h := h.below hb
  replace h' := h'.below hb
  clear hk
  go_wp2_with fail
  refine (swaps_any z l a a' c c' _ h h' HP.out).mono ?_
  rintro r w3 ⟨a5, c5, rfl, hMS, hk⟩
  generalize swpL z l = M at *
  replace hb := hb.trans (hk.mono hb.size)
  replace h := h.below hk
  clear hk h'
  have hb3 := Below.refl w3.heap.size w3
  go_wp2
  go_loopw [22] (fun i wr => ∃ n : Nat, n ≤ 6 ∧ i = .int .i64 n ∧ Below w3.heap.size w3 wr) (fun i _ => 6 - (intOf i).toNat)
  case atStart => exact ⟨0, Nat.zero_le _, rfl, hb3⟩
  case round =>
    clear hb3
    obtain ⟨n, hn, rfl, hb3⟩ := hrel
    by_cases hn6 : n < 6
    · have hnd : decide ((n : Int) < 6) = true := decide_eq_true (by omega)
      obtain ⟨A, hA1, hA2⟩ := HHS.out n hn6
      have A1 := Lib.hid hA1
      have A2 := Lib.hid hA2
      clear hA1 hA2
      go_wp2_with fail
      refine (held_any z a c n _ (h.below hb3)).mono ?_
      rintro r w6 ⟨rfl, hk⟩
      rw [A1.out]
      replace hb3 := hb3.trans (hk.mono hb3.size)
      clear hk
      go_wp2_with fail
      refine (held_any M a5 c5 n _ (hMS.below hb3)).mono ?_
      rintro r w4 ⟨rfl, hk⟩
      rw [A2.out]
      replace hb3 := hb3.trans (hk.mono hb3.size)
      have hzS := h.below hb3
      have hMS := hMS.below hb3
      clear hk
      go_wp2
      go_loopw [11, 12, 39] (fun v u i wr => ∃ k : Nat, k ≤ z.length ∧ i = .int .i64 k ∧ wr.ownsRow w4.heap.size 43 3 v (fK (isT n) z k).length (evL (fK (isT n) z k)) ∧ wr.ownsRow w4.heap.size 43 3 u (fK (isT n) M k).length (evL (fK (isT n) M k)) ∧ Dis v u ∧ Below w4.heap.size w4 wr) (fun _ _ i _ => z.length - (intOf i).toNat)
      case atStart => exact ⟨0, Nat.zero_le _, rfl, World.ownsRow_nil _ _ _ _, World.ownsRow_nil _ _ _ _, .inl rfl, Below.refl _ _⟩
      case round =>
        obtain ⟨k, hk, rfl, hv, hu, hd, hb4⟩ := hrel
        by_cases hlt : k < z.length
        · have hltM : k < M.length := by rw [HML.out]; exact hlt
          obtain ⟨g, o, rfl, d0, d1, d2⟩ := (hzS.below hb4).at hlt
          obtain ⟨g5, o5, rfl, e0, e1, e2⟩ := (hMS.below hb4).at hltM
          have y1 := fK_yes (p := isT n) hlt
          have n1 := fK_no (p := isT n) hlt
          have y2 := fK_yes (p := isT n) hltM
          have n2 := fK_no (p := isT n) hltM
          have l1 := fK_len (isT n) z k
          have l2 := fK_len (isT n) M k
          rw [HML.out] at l2
          have hs4 := hb4.size
          have k0 : (0 : Int) ≤ k := by omega
          have k1 : (k : Int) < z.length := by omega
          have k2 : (k : Int) < M.length := by omega
          obtain ⟨xm, hxm⟩ : ∃ q, z[k] = q := ⟨_, rfl⟩
          obtain ⟨ym, hym⟩ : ∃ q, M[k] = q := ⟨_, rfl⟩
          rw [hxm] at y1 n1 d0 d1 d2
          rw [hym] at y2 n2 e0 e1 e2
          obtain ⟨q1, r1⟩ : ∃ q, (xm.t == (n : Int)) = q := ⟨_, rfl⟩
          obtain ⟨q2, r2⟩ : ∃ q, (ym.t == (n : Int)) = q := ⟨_, rfl⟩
          rw [show isT n xm = q1 by rw [← r1]; simp only [isT]; by_cases e : xm.t = (n : Int) <;> simp [e]] at y1 n1
          rw [show isT n ym = q2 by rw [← r2]; simp only [isT]; by_cases e : ym.t = (n : Int) <;> simp [e]] at y2 n2
          have Y1 := Lib.hid y1
          have N1 := Lib.hid n1
          have Y2 := Lib.hid y2
          have N2 := Lib.hid n2
          have HYM := Lib.hid hym
          clear y1 n1 y2 n2 hxm hym e0 e1 e2
          cases q1
          · have HR1 := Lib.hid (N1.out rfl)
            clear Y1 N1
            have hx6 : wr.ownsRow w4.heap.size 43 3 u11 (fK (isT n) z (k + 1)).length (evL (fK (isT n) z (k + 1))) := by rw [HR1.out]; exact hv
            clear hv
            go_upto_region 17 with fail
            clear d0 d1 d2
            obtain ⟨g5', o5', hg5', e0, e1, e2⟩ := (hMS.below hb4).at hltM
            cases hg5'
            rw [HYM.out] at e0 e1 e2
            cases q2
            · have HR2 := Lib.hid (N2.out rfl)
              clear Y2 N2
              go_wp2
              go_roundw
              case rel => exact ⟨k + 1, by omega, by go_num, hx6, (by rw [HR2.out]; exact hu), hd, hb4⟩
              case measure => (simp [intOf]; try omega)
            · have HR2 := Lib.hid (Y2.out rfl)
              clear Y2 N2
              have hT := Has.new wr (evC ym) 43
              have hbT := hb4.alloc hb4.size (.cells (evC ym) 43)
              go_upto_region 19 with (at_builtin; refine app_list _ rfl (.tmp 63) (.tmp 68) 37 rfl Try.underlying37 hi hz0 hz1 hz2 rfl (by decide) rfl (hu.alloc _) rfl (news := evL [ym]) ⟨rfl, .inr ⟨_, rfl, fun j u hu => hT.cell_add (by simpa [evL] using hu)⟩⟩ (by intro q hq; simp [evL] at hq; rcases hq with rfl | rfl | rfl <;> rfl) (by unfold maxLen; omega) (by omega) (by have := hbT.size; simp at this ⊢; omega) ?_)
              intro v9 w9 hAp9
              have hb9 := hAp9.below (hu.alloc _) hbT (by have := hbT.size; simp at this ⊢; omega)
              obtain ⟨hd9, hx9⟩ := Dis.app (Dis.symm hd) hAp9 (hx6.alloc _)
              have hy9 : w9.ownsRow w4.heap.size 43 3 v9 (fK (isT n) M (k + 1)).length (evL (fK (isT n) M (k + 1))) := by
                have := hAp9.own
                rw [HR2.out, evL_append _ [ym], List.length_append]
                exact this
              clear hAp9 hT hbT e0 e1 e2
              go_wp2
              go_roundw
              case rel => exact ⟨k + 1, by omega, by go_num, hx9, hy9, hd9.symm, hb9⟩
              case measure => (simp [intOf]; try omega)
          · have HR1 := Lib.hid (Y1.out rfl)
            clear Y1 N1
            have hT := Has.new wr (evC xm) 43
            have hbT := hb4.alloc hb4.size (.cells (evC xm) 43)
            go_upto_region 17 with (at_builtin; refine app_list _ rfl (.tmp 49) (.tmp 54) 37 rfl Try.underlying37 hi hz0 hz1 hz2 rfl (by decide) rfl (hv.alloc _) rfl (news := evL [xm]) ⟨rfl, .inr ⟨_, rfl, fun j u hu => hT.cell_add (by simpa [evL] using hu)⟩⟩ (by intro q hq; simp [evL] at hq; rcases hq with rfl | rfl | rfl <;> rfl) (by unfold maxLen; omega) (by omega) (by have := hbT.size; simp at this ⊢; omega) ?_)
            intro v6 w6 hAp
            have hb7 := hAp.below (hv.alloc _) hbT (by have := hbT.size; simp at this ⊢; omega)
            obtain ⟨hd6, hu6⟩ := hd.app hAp (hu.alloc _)
            have hx6 : w6.ownsRow w4.heap.size 43 3 v6 (fK (isT n) z (k + 1)).length (evL (fK (isT n) z (k + 1))) := by
              have := hAp.own
              rw [HR1.out, evL_append _ [xm], List.length_append]
              exact this
            clear hAp hT hbT d0 d1 d2 hv hu hd
            go_upto_region 17 with fail
            obtain ⟨g5', o5', hg5', e0, e1, e2⟩ := (hMS.below hb7).at hltM
            cases hg5'
            rw [HYM.out] at e0 e1 e2
            cases q2
            · have HR2 := Lib.hid (N2.out rfl)
              clear Y2 N2
              go_wp2
              go_roundw
              case rel => exact ⟨k + 1, by omega, by go_num, hx6, (by rw [HR2.out]; exact hu6), hd6, hb7⟩
              case measure => (simp [intOf]; try omega)
            · have HR2 := Lib.hid (Y2.out rfl)
              clear Y2 N2
              have hT := Has.new w6 (evC ym) 43
              have hbT := hb7.alloc hb7.size (.cells (evC ym) 43)
              go_upto_region 19 with (at_builtin; refine app_list _ rfl (.tmp 63) (.tmp 68) 37 rfl Try.underlying37 hi hz0 hz1 hz2 rfl (by decide) rfl (hu6.alloc _) rfl (news := evL [ym]) ⟨rfl, .inr ⟨_, rfl, fun j u hu => hT.cell_add (by simpa [evL] using hu)⟩⟩ (by intro q hq; simp [evL] at hq; rcases hq with rfl | rfl | rfl <;> rfl) (by unfold maxLen; omega) (by omega) (by have := hbT.size; simp at this ⊢; omega) ?_)
              intro v9 w9 hAp9
              have hb9 := hAp9.below (hu6.alloc _) hbT (by have := hbT.size; simp at this ⊢; omega)
              obtain ⟨hd9, hx9⟩ := Dis.app (Dis.symm hd6) hAp9 (hx6.alloc _)
              have hy9 : w9.ownsRow w4.heap.size 43 3 v9 (fK (isT n) M (k + 1)).length (evL (fK (isT n) M (k + 1))) := by
                have := hAp9.own
                rw [HR2.out, evL_append _ [ym], List.length_append]
                exact this
              clear hAp9 hT hbT e0 e1 e2
              go_wp2
              go_roundw
              case rel => exact ⟨k + 1, by omega, by go_num, hx9, hy9, hd9.symm, hb9⟩
              case measure => (simp [intOf]; try omega)
        · obtain rfl : k = z.length := by omega
          rw [HFL.out n] at hu
          have l1 := fK_len (isT n) z z.length
          have hex : ∃ a2 c2, u11 = .slice a2 (fK (isT n) z z.length).length c2 ∧ EvS wr a2 (fK (isT n) z z.length) := by
            obtain ⟨a, c, h1, h2, _⟩ := evS_own hv (by omega)
            exact ⟨a, c, h1, h2⟩
          obtain ⟨a7, c7, rfl, hXS⟩ := hex
          have hex : ∃ a2 c2, u12 = .slice a2 (fK (isT n) z z.length).length c2 ∧ EvS wr a2 (fK (isT n) z z.length) := by
            obtain ⟨a, c, h1, h2, _⟩ := evS_own hu (by omega)
            exact ⟨a, c, h1, h2⟩
          obtain ⟨a8, c8, rfl, hYS⟩ := hex
          clear hv hu hd HFL HHS
          generalize fK (isT n) z z.length = L at *
          go_wp2_with fail
          refine (eqEv_self L _ _ rfl rfl _ _ _ _ _ hXS hYS).mono ?_
          rintro r w8 ⟨rfl, hk8⟩
          have hb8 := hb3.trans ((hb4.trans (hk8.mono hb4.size)).mono hb3.size)
          go_wp2
          go_roundw
          case rel => exact ⟨n + 1, by omega, by go_num, hb8⟩
          case measure => (simp [intOf]; try omega)
    · obtain rfl : n = 6 := by omega
      go_wp2_with fail
      refine (may_any M a5 c5 _ (hMS.below hb3)).mono ?_
      rintro r w8 ⟨rfl, hk8⟩
      rw [HMM.out]
      have hb8 := hb.trans ((hb3.trans (hk8.mono hb3.size)).mono hb.size)
      go_wp2
      go_ret
      exact ⟨rfl, hb8⟩
theorem swapMay_walk (a : Option Addr) (z : List Ev) (c : Nat) (a' : Option Addr) (l : List Int) (c' : Nat) (w : World) (hf : EvS w a z ∧ z.length ≤ c ∧ z.length * 24 ≤ 140737488351232 ∧ ∀ e ∈ z, I64 e.k ∧ I64 e.t ∧ I64 e.o) (hl : IntS w a' l ∧ l.length ≤ c' ∧ l.length * 8 ≤ 140737488351232 ∧ ∀ n ∈ l, I64 n) :
    Calls Try.prog 10 #[.slice a z.length c, .slice a' l.length c'] w fun e w' => e = .returned (.bool true) ∧ Below w.heap.size w w' := by
  cases hm : mayB z
  · exact swapMay_no a a' z l c c' w hf.1 hm
  · exact swapMay_ok a a' z l c c' w hf.1 hl.1 hm
/-! The frame of the law SwapMay, by program. -/
set_option maxRecDepth 100000 in
theorem swapMay_lifted (os : Os) (started : os.Started) (H : Type) (enc : TypeId × Value → H) :
    ReturnsInHanded {} Try.checked os 10 .any (Rows.swapMaySpec.pre6 enc Try.prog Try.f10 Rows.swapMayRow.domain false) (Rows.swapMaySpec.post enc Try.prog Try.f10 false true false false) := by
  refine returnsInHanded_of_change_shaped (C := Try.checked) frame_own started (by kernel_rfl) Try.func10
    (ChangeSpec.witness6 (enc := enc) (C := Try.checked) false ⟨#[], #[.slice none 0 0, .slice none 0 0], []⟩ 8 (by kernel_rfl) (by kernel_rfl) (by kernel_rfl) (by kernel_rfl)) ?_
  intro W base args ds gs before hval0 hW hcnd hsz hshaped hroom
  clear hcnd hshaped
  have hval : ∀ (j : Nat) t v, Try.f10.params[j]? = some t → args[j]? = some v → Value.okWide Try.prog W .any base t v := hval0
  have hW' := hW
  obtain ⟨p, q, hA0, hV, rfl, hfz, hnd⟩ := hW
  have hA : DataW.TrodAll enc Try.prog W 0 (fun _ => true) true Try.f10.params.toList args.toList ds p := hA0
  rw [Try.params10] at hA hval
  obtain ⟨v0, vs0, d0, ds0, p0, q0, hargs, rfl, rfl, h0, r0⟩ := trodAll_cons hA
  obtain ⟨v1, vs1, d1, ds1, p1, q1, rfl, rfl, rfl, h1, r1⟩ := trodAll_cons r0
  obtain ⟨rfl, rfl, rfl⟩ := trodAll_nil r1
  obtain rfl : args = #[v0, v1] := by cases args; simp_all
  obtain ⟨rfl, rfl⟩ := trodVars_none hV
  have k0 := h0
  have lt0 : ∀ x ∈ p0, x.block < W.heap.size := by obtain ⟨m, hm⟩ := k0; exact DataW.trod_lt m _ _ _ hm
  obtain ⟨a0, z0, c0, rfl, w0⟩ := open_evs (hval 0 37 v0 rfl rfl) h0 (fun els sp hd => sized_slice hsz (j := 0) rfl (by rw [hd]; rfl) Try.underlying37)
  have k1 := h1
  have lt1 : ∀ x ∈ p1, x.block < W.heap.size := by obtain ⟨m, hm⟩ := k1; exact DataW.trod_lt m _ _ _ hm
  obtain ⟨a1, z1, c1, rfl, w1⟩ := open_ints (hval 1 25 v1 rfl rfl) h1 (fun els sp hd => sized_slice hsz (j := 1) rfl (by rw [hd]; rfl) Try.underlying25)
  clear hA0 hval0
  refine (swapMay_walk a0 z0 c0 a1 z1 c1 W w0 w1).mono fun e W' ⟨he, bel⟩ => ?_
  subst he
  exact ⟨_, rfl, _, _, _, [], _, [], hW', trodAll_mk1 (shut_bool Try.underlying4 _), (trodAll_cons_mk (Below.trod frame_laid (by kernel_rfl) (of_decide_eq_true (by kernel_rfl)) k0 bel lt0) (trodAll_cons_mk (Below.trod frame_laid (by kernel_rfl) (of_decide_eq_true (by kernel_rfl)) k1 bel lt1) trodAll_mk0)), rfl, bel.frame _, fun h => by cases h⟩

theorem swapMay_over : Rows.swapMayRow.holds Try.pinned (OpenSpec.ofChange Rows.swapMaySpec) :=
  OpenClaim.holds_of_wide 10 Try.f10 rfl rfl rfl rfl rfl rfl rfl ⟨rfl, rfl, rfl, rfl, rfl⟩ rfl rfl rfl rfl rfl (by kernel_rfl) Try.func10 (by kernel_rfl)
    (of_decide_eq_true (by kernel_rfl)) (by unfold Func.isWrapper; first | (rw [if_pos (by decide +kernel)]; kernel_rfl) | (rw [if_neg (by decide +kernel)]; exact ⟨rfl, rfl⟩))
    (fun os started H enc _ => swapMay_lifted os started H enc)

/-- The statement. -/
theorem swapMay_holds : Rows.SwapMaySaid := swapMay_over

end Go.Proofs.Ytjpopjjjnaapnaa
