/- SwapSame: equivalence is symmetric and transitive, and swaps preserve it: for every two traces and every slice of numbers. -/
import Derived.Test.YtdgkedpggmkclaaRows
import Derived.Test.YtdgkedpggmkclaaSwpC
import Derived.Test.YtdgkedpggmkclaaLeg
import Derived.Test.YtdgkedpggmkclaaOpenE
import Derived.Test.YtdgkedpggmkclaaOpenI
namespace Go.Proofs.Ytdgkedpggmkclaa
open Go.ChangeShapes Go.WideShapes Go.ChangeAt Go.RowKit

theorem sameE_bit (l m : List Ev) (e f : Int) (he : sameE l m = e) (hf : sameE m l = f) : (f == 0) = (e == 0) := by
  subst he; subst hf
  rw [Bool.eq_iff_iff, beq_iff_eq, beq_iff_eq]
  exact sameE_comm m l
set_option maxRecDepth 100000 in
set_option maxHeartbeats 4000000 in
theorem swapSame_walk (a : Option Addr) (z : List Ev) (c : Nat) (a' : Option Addr) (m : List Ev) (c' : Nat) (a'' : Option Addr) (l : List Int) (c'' : Nat) (w : World) (hf : EvS w a z ∧ z.length ≤ c ∧ z.length * 24 ≤ 140737488351232 ∧ ∀ e ∈ z, I64 e.k ∧ I64 e.t ∧ I64 e.o) (hm : EvS w a' m ∧ m.length ≤ c' ∧ m.length * 24 ≤ 140737488351232 ∧ ∀ e ∈ m, I64 e.k ∧ I64 e.t ∧ I64 e.o) (hl : IntS w a'' l ∧ l.length ≤ c'' ∧ l.length * 8 ≤ 140737488351232 ∧ ∀ n ∈ l, I64 n) :
    Calls Try.prog 5 #[.slice a z.length c, .slice a' m.length c', .slice a'' l.length c''] w fun e w' => e = .returned (.bool true) ∧ Below w.heap.size w w' := by
  have h := hf.1
  have hM := hm.1
  have h' := hl.1
  clear hf hl hm
  -- the two answers
  obtain ⟨E, hE⟩ : ∃ E, sameE z m = E := ⟨_, rfl⟩
  obtain ⟨F, hF⟩ : ∃ F, sameE m z = F := ⟨_, rfl⟩
  obtain ⟨B, hB⟩ : ∃ B, sameB z m = B := ⟨_, rfl⟩
  have hB2 : sameB m z = B := by rw [sameB_comm]; exact hB
  have hbit := sameE_bit z m E F hE hF
  have hq : (E != 0 && B) = false := by
    rw [← hE, ← hB]
    unfold sameB
    cases hx : (sameE z m == 0) <;> simp [bne, hx]
  obtain ⟨q, hq0⟩ : ∃ q, (E == 0) = q := ⟨_, rfl⟩
  rw [hq0] at hbit
  have hq1 : (E != 0) = !q := by rw [← hq0]; rfl
  rw [hq1] at hq
  by_cases hp : (played z).2.2 = 0
  · have hX := swpL_eq l z
    have h3 := hX.len
    obtain ⟨h7, h8⟩ := sameB_moved hX hp
    have h9 : sameE (swpL z l) m = F := by
      rw [← hF]
      unfold sameE
      rw [if_pos (hX.ok hp)]
      split
      · rename_i e; rw [e, hp]
      · rfl
    have h10 : sameB (swpL z l) m = B := by
      rw [← hB]
      unfold sameB
      have e1 := sameE_bit z m _ _ rfl rfl
      have e2 : sameE m z = sameE (swpL z l) m := by rw [h9, hF]
      rw [hX.least, ← e1, e2]
    have hmay : mayB z = true := by simp [mayB, hp]
    have HE := Lib.hid hE
    have HF := Lib.hid hF
    have HB := Lib.hid hB
    have HB2 := Lib.hid hB2
    have HP := Lib.hid hp
    have H3 := Lib.hid h3
    have H7 := Lib.hid h7
    have H8 := Lib.hid h8
    have H9 := Lib.hid h9
    have H10 := Lib.hid h10
    have HM := Lib.hid hmay
    clear hE hF hB hB2 hp hX h3 h7 h8 h9 h10 hmay
    go_enter Try.func5, Try.ntmps5
    go_wp2_with fail
    refine (swapped_any _).mono ?_
    rintro r w1 ⟨rfl, hb⟩
    go_wp2_with fail
    refine (same_any z m _ _ rfl rfl a a' c c' _ (h.below hb) (hM.below hb)).mono ?_
    rintro r w2 ⟨rfl, hk⟩
    rw [HE.out, HB.out]
    replace hb := hb.trans (hk.mono hb.size)
    clear hk
    go_wp2_with fail
    refine (same_any m z _ _ rfl rfl a' a c' c _ (hM.below hb) (h.below hb)).mono ?_
    rintro r w3 ⟨rfl, hk⟩
    rw [HF.out, HB2.out]
    replace hb := hb.trans (hk.mono hb.size)
    clear hk
    cases q <;> cases B
    case' false.true => exact absurd hq (by decide)
    all_goals
      clear hq
      go_wp2_with fail
      refine (may_any z a c _ (h.below hb)).mono ?_
      rintro r w4 ⟨rfl, hk⟩
      rw [HM.out]
      replace hb := hb.trans (hk.mono hb.size)
      clear hk
      go_wp2_with fail
      refine (swaps_any z l a a'' c c'' _ (h.below hb) (h'.below hb) HP.out).mono ?_
      rintro r w5 ⟨a5, c5, rfl, hW, hk⟩
      replace hb := hb.trans (hk.mono hb.size)
      rw [H3.out]
      clear hk
      go_wp2_with fail
      refine (same_any z (swpL z l) _ _ rfl H3.out a a5 c c5 _ (h.below hb) hW).mono ?_
      rintro r w6 ⟨rfl, hk⟩
      rw [H7.out, H8.out]
      replace hb := hb.trans (hk.mono hb.size)
      clear hk hW
      go_wp2_with fail
      refine (swaps_any z l a a'' c c'' _ (h.below hb) (h'.below hb) HP.out).mono ?_
      rintro r w7 ⟨a7, c7, rfl, hW, hk⟩
      replace hb := hb.trans (hk.mono hb.size)
      rw [H3.out]
      clear hk
      go_wp2_with fail
      refine (same_any (swpL z l) m _ _ H3.out rfl a7 a' c7 c' _ hW (hM.below hb)).mono ?_
      rintro r w8 ⟨rfl, hk⟩
      rw [H9.out, H10.out]
      replace hb := hb.trans (hk.mono hb.size)
      clear hk hW
      go_wp2
      go_ret
      exact ⟨rfl, hb⟩
  · have hmay : mayB z = false := by simpa [mayB] using hp
    have HE := Lib.hid hE
    have HF := Lib.hid hF
    have HB := Lib.hid hB
    have HB2 := Lib.hid hB2
    have HM := Lib.hid hmay
    clear hE hF hB hB2 hp hmay
    go_enter Try.func5, Try.ntmps5
    go_wp2_with fail
    refine (swapped_any _).mono ?_
    rintro r w1 ⟨rfl, hb⟩
    go_wp2_with fail
    refine (same_any z m _ _ rfl rfl a a' c c' _ (h.below hb) (hM.below hb)).mono ?_
    rintro r w2 ⟨rfl, hk⟩
    rw [HE.out, HB.out]
    replace hb := hb.trans (hk.mono hb.size)
    clear hk
    go_wp2_with fail
    refine (same_any m z _ _ rfl rfl a' a c' c _ (hM.below hb) (h.below hb)).mono ?_
    rintro r w3 ⟨rfl, hk⟩
    rw [HF.out, HB2.out]
    replace hb := hb.trans (hk.mono hb.size)
    clear hk
    cases q <;> cases B
    case' false.true => exact absurd hq (by decide)
    all_goals
      clear hq
      go_wp2_with fail
      refine (may_any z a c _ (h.below hb)).mono ?_
      rintro r w4 ⟨rfl, hk⟩
      rw [HM.out]
      replace hb := hb.trans (hk.mono hb.size)
      clear hk
      go_wp2
      go_ret
      exact ⟨rfl, hb⟩
/-! The frame of the law SwapSame, by program. -/
set_option maxRecDepth 100000 in
theorem swapSame_lifted (os : Os) (started : os.Started) (H : Type) (enc : TypeId × Value → H) :
    ReturnsInHanded {} Try.checked os 5 .any (Rows.swapSameSpec.pre6 enc Try.prog Try.f5 Rows.swapSameRow.domain false) (Rows.swapSameSpec.post enc Try.prog Try.f5 false true false false) := by
  refine returnsInHanded_of_change_shaped (C := Try.checked) frame_own started (by kernel_rfl) Try.func5
    (ChangeSpec.witness6 (enc := enc) (C := Try.checked) false ⟨#[], #[.slice none 0 0, .slice none 0 0, .slice none 0 0], []⟩ 8 (by kernel_rfl) (by kernel_rfl) (by kernel_rfl) (by kernel_rfl)) ?_
  intro W base args ds gs before hval0 hW hcnd hsz hshaped hroom
  clear hcnd hshaped
  have hval : ∀ (j : Nat) t v, Try.f5.params[j]? = some t → args[j]? = some v → Value.okWide Try.prog W .any base t v := hval0
  have hW' := hW
  obtain ⟨p, q, hA0, hV, rfl, hfz, hnd⟩ := hW
  have hA : DataW.TrodAll enc Try.prog W 0 (fun _ => true) true Try.f5.params.toList args.toList ds p := hA0
  rw [Try.params5] at hA hval
  obtain ⟨v0, vs0, d0, ds0, p0, q0, hargs, rfl, rfl, h0, r0⟩ := trodAll_cons hA
  obtain ⟨v1, vs1, d1, ds1, p1, q1, rfl, rfl, rfl, h1, r1⟩ := trodAll_cons r0
  obtain ⟨v2, vs2, d2, ds2, p2, q2, rfl, rfl, rfl, h2, r2⟩ := trodAll_cons r1
  obtain ⟨rfl, rfl, rfl⟩ := trodAll_nil r2
  obtain rfl : args = #[v0, v1, v2] := by cases args; simp_all
  obtain ⟨rfl, rfl⟩ := trodVars_none hV
  have k0 := h0
  have lt0 : ∀ x ∈ p0, x.block < W.heap.size := by obtain ⟨m, hm⟩ := k0; exact DataW.trod_lt m _ _ _ hm
  obtain ⟨a0, z0, c0, rfl, w0⟩ := open_evs (hval 0 28 v0 rfl rfl) h0 (fun els sp hd => sized_slice hsz (j := 0) rfl (by rw [hd]; rfl) Try.underlying28)
  have k1 := h1
  have lt1 : ∀ x ∈ p1, x.block < W.heap.size := by obtain ⟨m, hm⟩ := k1; exact DataW.trod_lt m _ _ _ hm
  obtain ⟨a1, z1, c1, rfl, w1⟩ := open_evs (hval 1 28 v1 rfl rfl) h1 (fun els sp hd => sized_slice hsz (j := 1) rfl (by rw [hd]; rfl) Try.underlying28)
  have k2 := h2
  have lt2 : ∀ x ∈ p2, x.block < W.heap.size := by obtain ⟨m, hm⟩ := k2; exact DataW.trod_lt m _ _ _ hm
  obtain ⟨a2, z2, c2, rfl, w2⟩ := open_ints (hval 2 36 v2 rfl rfl) h2 (fun els sp hd => sized_slice hsz (j := 2) rfl (by rw [hd]; rfl) Try.underlying36)
  clear hA0 hval0
  refine (swapSame_walk a0 z0 c0 a1 z1 c1 a2 z2 c2 W w0 w1 w2).mono fun e W' ⟨he, bel⟩ => ?_
  subst he
  exact ⟨_, rfl, _, _, _, [], _, [], hW', trodAll_mk1 (shut_bool Try.underlying4 _), (trodAll_cons_mk (Below.trod frame_laid (by kernel_rfl) (of_decide_eq_true (by kernel_rfl)) k0 bel lt0) (trodAll_cons_mk (Below.trod frame_laid (by kernel_rfl) (of_decide_eq_true (by kernel_rfl)) k1 bel lt1) (trodAll_cons_mk (Below.trod frame_laid (by kernel_rfl) (of_decide_eq_true (by kernel_rfl)) k2 bel lt2) trodAll_mk0))), rfl, bel.frame _, fun h => by cases h⟩

theorem swapSame_over : Rows.swapSameRow.holds Try.pinned (OpenSpec.ofChange Rows.swapSameSpec) :=
  OpenClaim.holds_of_wide 5 Try.f5 rfl rfl rfl rfl rfl rfl rfl ⟨rfl, rfl, rfl, rfl, rfl⟩ rfl rfl rfl rfl rfl (by kernel_rfl) Try.func5 (by kernel_rfl)
    (of_decide_eq_true (by kernel_rfl)) (by unfold Func.isWrapper; first | (rw [if_pos (by decide +kernel)]; kernel_rfl) | (rw [if_neg (by decide +kernel)]; exact ⟨rfl, rfl⟩))
    (fun os started H enc _ => swapSame_lifted os started H enc)

/-- The statement. -/
theorem swapSame_holds : Rows.SwapSameSaid := swapSame_over

end Go.Proofs.Ytdgkedpggmkclaa
