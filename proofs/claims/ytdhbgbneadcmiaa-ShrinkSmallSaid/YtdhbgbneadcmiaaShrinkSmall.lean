/- ShrinkSmall: from a reduced trace no event can be removed: for every trace. -/
import Derived.Test.YtdhbgbneadcmiaaRows
import Derived.Test.YtdhbgbneadcmiaaShd
import Derived.Test.YtdhbgbneadcmiaaOpenE
namespace Go.Proofs.Ytdhbgbneadcmiaa
open Go.ChangeShapes Go.WideShapes Go.ChangeAt Go.RowKit

theorem all_nil (l : List Ev) (n : Nat) (hn : l.length = n) (a : Option Addr) (c : Nat) (w : World) (h : EvS w a l) (he : (played l).2.2 = 0) (hr : raceL l = []) :
    Calls Try.prog 13 #[.slice a n c] w fun r w' => (∃ a' c', r = .returned (.tuple #[.slice a' 0 c', .int .i64 0])) ∧ Below w.heap.size w w' := by
  subst hn
  refine (all_ok l a c w h he).mono ?_
  rintro r w1 ⟨v, rfl, hown, hb⟩
  rw [hr] at hown
  refine ⟨?_, hb⟩
  rcases hown.2 with ⟨rfl, _⟩ | ⟨g, cap, cur, rfl, _⟩
  · exact ⟨_, _, rfl⟩
  · exact ⟨_, _, rfl⟩
set_option maxRecDepth 100000 in
set_option maxHeartbeats 2000000 in
theorem shrinkSmall_walk (a : Option Addr) (z : List Ev) (c : Nat) (w : World) (hf : EvS w a z ∧ z.length ≤ c ∧ z.length * 24 ≤ 140737488351232 ∧ ∀ e ∈ z, I64 e.k ∧ I64 e.t ∧ I64 e.o) :
    Calls Try.prog 7 #[.slice a z.length c] w fun e w' => e = .returned (.bool true) ∧ Below w.heap.size w w' := by
  have h := hf.1
  clear hf
  by_cases hr : Racy z
  · have hm := (mini_is z).racy hr
    have hmin := (mini_is z).min
    have hml := (played_evs hm.ok).1
    have HC := Lib.hid fun W (hW : EvS W a z) => min_ok z z.length rfl a c W hW hr
    have HM := Lib.hid hm
    have HN := Lib.hid hmin
    clear hm hmin hr
    generalize mini z = M at *
    go_enter Try.func7, Try.ntmps7
    go_wp2_with fail
    refine (shrunk_any _).mono ?_
    rintro r w1 ⟨rfl, hb⟩
    go_wp2_with fail
    refine (HC.out _ (h.below hb)).mono ?_
    rintro r w2 ⟨a2, c2, rfl, hS, hk⟩
    replace hb := hb.trans (hk.mono hb.size)
    clear hk HC h
    have hI := Below.refl w2.heap.size w2
    go_wp2
    go_loopw [24] (fun i wr => ∃ k : Nat, k ≤ M.length ∧ i = .int .i64 k ∧ Below w2.heap.size w2 wr) (fun i _ => M.length - (intOf i).toNat)
    case atStart => exact ⟨0, Nat.zero_le _, rfl, hI⟩
    case round =>
      clear hI
      obtain ⟨k, hk, rfl, hb2⟩ := hrel
      by_cases hlt : k < M.length
      · by_cases hq : (played (M.eraseIdx k)).2.2 = 0
        · have hr0 : raceL (M.eraseIdx k) = [] := by
            have h1 := HN.out k hlt
            simp only [shOk, hq, beq_self_eq_true, Bool.true_and, Bool.not_eq_false', List.isEmpty_iff] at h1
            exact h1
          have HW := Lib.hid (without_ok M M.length k rfl hlt a2 c2 _ (hS.below hb2) HM.out.ok hq)
          have HA := Lib.hid fun (a : Option Addr) (c : Nat) (W : World) (hW : EvS W a (M.eraseIdx k)) => all_nil (M.eraseIdx k) _ rfl a c W hW hq hr0
          clear hr0 hq
          go_wp2_with fail
          refine HW.out.mono ?_
          rintro r w3 ⟨a3, c3, rfl, hE, hk3⟩
          have hb3 := hb2.trans (hk3.mono hb2.size)
          clear HW hk3 hb2
          go_wp2_with fail
          refine (HA.out _ _ _ hE).mono ?_
          rintro r w4 ⟨⟨a4, c4, rfl⟩, hk4⟩
          have hb4 := hb3.trans (hk4.mono hb3.size)
          clear HA hk4 hb3 hE
          go_wp2
          go_roundw
          case rel => exact ⟨k + 1, by omega, by go_num, hb4⟩
          case measure => (simp [intOf]; try omega)
        · have HW := Lib.hid (without_no M M.length (k : Int) rfl a2 c2 _ (hS.below hb2) (by unfold woOk; simp [hq]))
          clear hq
          go_wp2_with fail
          refine HW.out.mono ?_
          rintro r w3 ⟨e, he, rfl, hk3⟩
          have he2 : (e != 0) = true := by simpa using he
          have hb3 := hb2.trans (hk3.mono hb2.size)
          clear HW hk3 hb2
          go_wp2
          go_roundw
          case rel => exact ⟨k + 1, by omega, by go_num, hb3⟩
          case measure => (simp [intOf]; try omega)
      · have hb3 := hb.trans (hb2.mono hb.size)
        go_wp2
        go_ret
        exact ⟨rfl, hb3⟩
  · have HC := Lib.hid fun W (hW : EvS W a z) => min_no z z.length rfl a c W hW hr
    have hq : ((if (played z).2.2 = 0 then 7 else (played z).2.2) != 0) = true := by
      split
      · rfl
      · simpa using (by assumption)
    clear hr
    generalize (if (played z).2.2 = 0 then 7 else (played z).2.2) = E at *
    go_enter Try.func7, Try.ntmps7
    go_wp2_with fail
    refine (shrunk_any _).mono ?_
    rintro r w1 ⟨rfl, hb⟩
    go_wp2_with fail
    refine (HC.out _ (h.below hb)).mono ?_
    rintro r w2 ⟨rfl, hk⟩
    replace hb := hb.trans (hk.mono hb.size)
    go_wp2
    go_ret
    exact ⟨rfl, hb⟩
/-! The frame of the law ShrinkSmall, by program. -/
set_option maxRecDepth 100000 in
theorem shrinkSmall_lifted (os : Os) (started : os.Started) (H : Type) (enc : TypeId × Value → H) :
    ReturnsInHanded {} Try.checked os 7 .any (Rows.shrinkSmallSpec.pre6 enc Try.prog Try.f7 Rows.shrinkSmallRow.domain false) (Rows.shrinkSmallSpec.post enc Try.prog Try.f7 false true false false) := by
  refine returnsInHanded_of_change_shaped (C := Try.checked) frame_own started (by kernel_rfl) Try.func7
    (ChangeSpec.witness6 (enc := enc) (C := Try.checked) false ⟨#[], #[.slice none 0 0], []⟩ 8 (by kernel_rfl) (by kernel_rfl) (by kernel_rfl) (by kernel_rfl)) ?_
  intro W base args ds gs before hval0 hW hcnd hsz hshaped hroom
  clear hcnd hshaped
  have hval : ∀ (j : Nat) t v, Try.f7.params[j]? = some t → args[j]? = some v → Value.okWide Try.prog W .any base t v := hval0
  have hW' := hW
  obtain ⟨p, q, hA0, hV, rfl, hfz, hnd⟩ := hW
  have hA : DataW.TrodAll enc Try.prog W 0 (fun _ => true) true Try.f7.params.toList args.toList ds p := hA0
  rw [Try.params7] at hA hval
  obtain ⟨v0, vs0, d0, ds0, p0, q0, hargs, rfl, rfl, h0, r0⟩ := trodAll_cons hA
  obtain ⟨rfl, rfl, rfl⟩ := trodAll_nil r0
  obtain rfl : args = #[v0] := by cases args; simp_all
  obtain ⟨rfl, rfl⟩ := trodVars_none hV
  have k0 := h0
  have lt0 : ∀ x ∈ p0, x.block < W.heap.size := by obtain ⟨m, hm⟩ := k0; exact DataW.trod_lt m _ _ _ hm
  obtain ⟨a0, z0, c0, rfl, w0⟩ := open_evs (hval 0 22 v0 rfl rfl) h0 (fun els sp hd => sized_slice hsz (j := 0) rfl (by rw [hd]; rfl) Try.underlying22)
  clear hA0 hval0
  refine (shrinkSmall_walk a0 z0 c0 W w0).mono fun e W' ⟨he, bel⟩ => ?_
  subst he
  exact ⟨_, rfl, _, _, _, [], _, [], hW', trodAll_mk1 (shut_bool Try.underlying4 _), (trodAll_cons_mk (Below.trod frame_laid (by kernel_rfl) (of_decide_eq_true (by kernel_rfl)) k0 bel lt0) trodAll_mk0), rfl, bel.frame _, fun h => by cases h⟩

theorem shrinkSmall_over : Rows.shrinkSmallRow.holds Try.pinned (OpenSpec.ofChange Rows.shrinkSmallSpec) :=
  OpenClaim.holds_of_wide 7 Try.f7 rfl rfl rfl rfl rfl rfl rfl ⟨rfl, rfl, rfl, rfl, rfl⟩ rfl rfl rfl rfl rfl (by kernel_rfl) Try.func7 (by kernel_rfl)
    (of_decide_eq_true (by kernel_rfl)) (by unfold Func.isWrapper; first | (rw [if_pos (by decide +kernel)]; kernel_rfl) | (rw [if_neg (by decide +kernel)]; exact ⟨rfl, rfl⟩))
    (fun os started H enc _ => shrinkSmall_lifted os started H enc)

/-- The statement. -/
theorem shrinkSmall_holds : Rows.ShrinkSmallSaid := shrinkSmall_over

end Go.Proofs.Ytdhbgbneadcmiaa
