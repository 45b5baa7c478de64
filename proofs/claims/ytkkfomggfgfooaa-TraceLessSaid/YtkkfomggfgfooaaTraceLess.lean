/- TraceLess: without a Read, a Write, a See or a Show a trace remains valid: for every trace and every number. -/
import Derived.Test.YtkkfomggfgfooaaRows
import Derived.Test.YtkkfomggfgfooaaTrE
import Derived.Test.YtkkfomggfgfooaaTrQ
import Derived.Test.YtkkfomggfgfooaaEvs
import Derived.Test.YtkkfomggfgfooaaOpenE
import Derived.Deep.RegionHeld3
import Derived.Deep.RegionLaw
namespace Go.Proofs.Ytkkfomggfgfooaa
open Go.ChangeShapes Go.WideShapes Go.ChangeAt Go.RowKit

theorem plain_nxt {s : St} {e : Ev} (h : ¬ (3 ≤ e.k ∧ e.k ≤ 6)) : nxt s e = s := by unfold nxt; (repeat' split) <;> first | rfl | omega
theorem playL_index (l : List Ev) : ∀ (s : St) (i j : Nat), (playL s i l).2.2 = (playL s j l).2.2 := by
  induction l with
  | nil => intros; rfl
  | cons e l ih => intro s i j; simp only [playL]; split <;> first | exact ih _ _ _ | rfl
theorem playL_less (l m : List Ev) (e : Ev) (s : St) (i : Nat) (hk : ¬ (3 ≤ e.k ∧ e.k ≤ 6)) (h : (playL s i (l ++ e :: m)).2.2 = 0) : (playL s i (l ++ m)).2.2 = 0 := by
  rw [playL_append] at h ⊢
  split at h
  · rename_i h0
    rw [if_pos h0]
    simp only [playL] at h
    split at h
    · rw [plain_nxt hk] at h
      rw [playL_index m _ _ (i + l.length + 1)]
      exact h
    · rename_i he; exact absurd h he
  · rename_i h0; exact absurd h h0
theorem mayB_less {l : List Ev} {k : Nat} (hk : k < l.length) (h : mayB l = true) (hp : ¬ (3 ≤ (l[k]).k ∧ (l[k]).k ≤ 6)) : mayB (l.take k ++ l.drop (k + 1)) = true := by
  obtain ⟨h1, h2⟩ := mayB_iff.1 h
  refine mayB_iff.2 ⟨by simp; omega, ?_⟩
  rw [← List.take_append_drop k l, List.drop_eq_getElem_cons hk] at h2
  exact playL_less _ _ _ _ _ hp h2

set_option maxHeartbeats 2000000 in
theorem less_ok (b o : Nat) (z : List Ev) (c : Nat) (n : Int) (w : World) (h : EvS w (some ⟨b, o, none⟩) z) (hc : z.length ≤ c) (hm : mayB z = true) (hz : 0 < z.length) :
    Calls Try.prog 6 #[.slice (some ⟨b, o, none⟩) z.length c, .int .i64 n] w fun e w' => e = .returned (.bool true) ∧ Below w.heap.size w w' := by
  have hbig := h.big
  have hl80 := (mayB_iff.1 hm).1
  obtain ⟨i0, hi, hz0, hz1, hz2⟩ := info_parts infoE
  have q0 := Int.emod_nonneg n (show (z.length : Int) ≠ 0 by omega)
  have q1 := Int.emod_lt_of_pos n (show 0 < (z.length : Int) by omega)
  obtain ⟨k, hk⟩ := Int.eq_ofNat_of_zero_le q0
  have hkz : k < z.length := by rw [hk] at q1; exact Int.ofNat_lt.1 q1
  have HM := Lib.hid hm
  have HK := Lib.hid hk
  clear hk q0 q1 hm
  have HL : Hid (¬ (3 ≤ (z[k]).k ∧ (z[k]).k ≤ 6) → mayB (z.take k ++ z.drop (k + 1)) = true) := Lib.hid fun hp => mayB_less hkz HM.out hp
  have hz' : ((z.length : Int) == 0) = false := beq_eq_false_iff_ne.2 (by omega)
  go_enter Try.func6, Try.ntmps6
  go_wp2_with fail
  refine (traced_any _).mono ?_
  rintro r w1 ⟨rfl, hb⟩
  go_wp2_with fail
  refine (may_any z _ c _ (h.below hb)).mono ?_
  rintro r w2 ⟨rfl, hk⟩
  rw [HM.out]
  replace hb := hb.trans (hk.mono hb.size)
  replace h := h.below hb
  clear hk
  go_wp2_with fail
  refine (rest_any n _ _ (by omega) (by omega)).mono ?_
  rintro r w3 ⟨rfl, rfl⟩
  rw [HK.out]
  go_wp2_with fail
  have S1 := ((h.take k).src).below (Below.refl _ _).drew
  have S2 := ((h.tail (k + 1) c hc).src).below (Below.refl _ _).drew
  have hl1 : (z.take k).length = k := by simp; omega
  have hl2 : (z.drop (k + 1)).length = z.length - (k + 1) := by simp
  rw [hl1] at S1
  rw [hl2] at S2
  have hs := hb.size
  have hw := IntWalk.i64_in ((k : Int) + 1) (by omega)
  have hc80 : (k : Int) + 1 ≤ c := by omega
  have hk0 : (0 : Int) ≤ k := by omega
  have hkc : (k : Int) ≤ c := by omega
  have hkz2 : (k : Int) + 1 ≤ z.length := by omega
  have hk1 : (0 : Int) ≤ (k : Int) + 1 := by omega
  have hzc : (z.length : Int) ≤ c := by omega
  clear hl1 hl2
  go_region_law (first
    | (refine app_step _ rfl (.const (.slice none 0 0)) (.tmp 22) 22 rfl Try.underlying22 hi hz0 hz1 hz2 rfl (by decide) (v := .slice none 0 0) (n := 0) (xs := []) rfl (World.ownsRow_nil _ w.heap.size _ _) (A := some ⟨b, o, none⟩) (m := k) (c := c) (news := evL (z.take k)) rfl S1 (evL_one _) (by unfold maxLen; omega) (by omega) hs ?_; intro v1 x1 hA1)
    | (refine app_step _ rfl (.tmp 23) (.tmp 27) 22 rfl Try.underlying22 hi hz0 hz1 hz2 rfl (by decide) rfl hA1.own (news := evL (z.drop (k + 1))) rfl (by exact S2.below hA1.fresh) (evL_one _) (by unfold maxLen; omega) (by omega) (by exact Nat.le_trans hs hA1.grown.size) ?_; intro v2 x2 hA2))
  have hbx : Below w.heap.size w x2 := hA2.below hA1.own ((hb.drew).trans (hA1.fresh.mono hs)) (Nat.le_trans hs hA1.grown.size)
  have hkk : 0 + k + (z.length - (k + 1)) = (z.take k ++ z.drop (k + 1)).length := by simp; omega
  obtain ⟨a', c', hv, hS⟩ := hA2.evs (l := z.take k ++ z.drop (k + 1)) (by rw [evL_append]; simp) hkk (by simp; omega)
  have hS' : EvS x2 (some ⟨b, o, none⟩) z := h.below ((Below.refl _ _).drew.trans (hA1.fresh2 hA2))
  obtain ⟨d0, d1, d2⟩ : x2.cell? ⟨b, o + k * 3, none⟩ = some (.int .i64 z[k].k) ∧ x2.cell? ⟨b, o + k * 3 + 1, none⟩ = some (.int .i64 z[k].t) ∧ x2.cell? ⟨b, o + k * 3 + 2, none⟩ = some (.int .i64 z[k].o) := by
    rcases hS'.ok with h0 | ⟨b', o', ha, hcc⟩
    · simp [h0] at hkz
    · cases ha; exact hcc k hkz
  rw [hv]
  generalize (if c = k + 1 then some (⟨b, o, none⟩ : Addr) else some ⟨b, o + (k + 1) * 3, none⟩) = A2
  clear d1 d2 hv S1 S2 hA1 hA2 hS' hkk hw
  generalize z[k] = x at *
  generalize z.take k ++ z.drop (k + 1) = m at *
  have hkz' : (k : Int) < z.length := by omega
  by_cases h3 : 3 ≤ x.k
  · by_cases h6 : x.k ≤ 6
    · go_wp2
      go_ret
      exact ⟨rfl, hbx⟩
    · have h6' : decide (x.k ≤ 6) = false := by simp; omega
      have HL2 := Lib.hid (HL.out (by omega))
      clear HL h6
      go_wp2_with fail
      refine (may_any m a' c' _ hS).mono ?_
      rintro r w4 ⟨rfl, hk⟩
      rw [HL2.out]
      go_wp2
      go_ret
      exact ⟨rfl, hbx.trans (hk.mono hbx.size)⟩
  · have h3' : decide (3 ≤ x.k) = false := by simp; omega
    have HL2 := Lib.hid (HL.out (by omega))
    clear HL h3
    go_wp2_with fail
    refine (may_any m a' c' _ hS).mono ?_
    rintro r w4 ⟨rfl, hk⟩
    rw [HL2.out]
    go_wp2
    go_ret
    exact ⟨rfl, hbx.trans (hk.mono hbx.size)⟩

set_option maxHeartbeats 1000000 in
theorem less_no (a : Option Addr) (z : List Ev) (c : Nat) (n : Int) (w : World) (h : EvS w a z) (hm : mayB z = false) :
    Calls Try.prog 6 #[.slice a z.length c, .int .i64 n] w fun e w' => e = .returned (.bool true) ∧ Below w.heap.size w w' := by
  go_enter Try.func6, Try.ntmps6
  go_wp2_with fail
  refine (traced_any _).mono ?_
  rintro r w1 ⟨rfl, hb⟩
  go_wp2_with fail
  refine (may_any z _ c _ (h.below hb)).mono ?_
  rintro r w2 ⟨rfl, hk⟩
  rw [hm]
  go_wp2
  go_ret
  exact ⟨rfl, hb.trans (hk.mono hb.size)⟩
set_option maxHeartbeats 1000000 in
theorem less_nil (a : Option Addr) (c : Nat) (n : Int) (w : World) (h : EvS w a []) :
    Calls Try.prog 6 #[.slice a 0 c, .int .i64 n] w fun e w' => e = .returned (.bool true) ∧ Below w.heap.size w w' := by
  go_enter Try.func6, Try.ntmps6
  go_wp2_with fail
  refine (traced_any _).mono ?_
  rintro r w1 ⟨rfl, hb⟩
  go_wp2_with fail
  refine (may_n [] 0 rfl _ c _ (h.below hb)).mono ?_
  rintro r w2 ⟨rfl, hk⟩
  rw [show mayB [] = true by decide +kernel]
  go_wp2
  go_ret
  exact ⟨rfl, hb.trans (hk.mono hb.size)⟩
theorem traceLess_walk (a : Option Addr) (z : List Ev) (c : Nat) (n : Int) (w : World) (h : EvS w a z ∧ z.length ≤ c ∧ z.length * 24 ≤ 140737488351232 ∧ ∀ e ∈ z, I64 e.k ∧ I64 e.t ∧ I64 e.o) (_ : I64 n) :
    Calls Try.prog 6 #[.slice a z.length c, .int .i64 n] w fun e w' => e = .returned (.bool true) ∧ Below w.heap.size w w' := by
  by_cases hm : mayB z = true
  · by_cases hz : z = []
    · subst hz; exact less_nil a c n w h.1
    · have hz' : 0 < z.length := List.length_pos_iff.2 hz
      obtain ⟨b, o, rfl⟩ : ∃ b o, a = some ⟨b, o, none⟩ := by
        rcases h.1.ok with h0 | ⟨b, o, ha, _⟩
        · exact absurd h0 hz
        · exact ⟨b, o, ha⟩
      exact less_ok b o z c n w h.1 h.2.1 hm hz'
  · exact less_no a z c n w h.1 (by simpa using hm)
/-! The frame of the law TraceLess, by program. -/
set_option maxRecDepth 100000 in
theorem traceLess_lifted (os : Os) (started : os.Started) (H : Type) (enc : TypeId × Value → H) :
    ReturnsInHanded {} Try.checked os 6 .any (Rows.traceLessSpec.pre6 enc Try.prog Try.f6 Rows.traceLessRow.domain false) (Rows.traceLessSpec.post enc Try.prog Try.f6 false true false false) := by
  refine returnsInHanded_of_change_shaped (C := Try.checked) frame_own started (by kernel_rfl) Try.func6
    (ChangeSpec.witness6 (enc := enc) (C := Try.checked) false ⟨#[], #[.slice none 0 0, .int .i64 0], []⟩ 8 (by kernel_rfl) (by kernel_rfl) (by kernel_rfl) (by kernel_rfl)) ?_
  intro W base args ds gs before hval0 hW hcnd hsz hshaped hroom
  clear hcnd hshaped
  have hval : ∀ (j : Nat) t v, Try.f6.params[j]? = some t → args[j]? = some v → Value.okWide Try.prog W .any base t v := hval0
  have hW' := hW
  obtain ⟨p, q, hA0, hV, rfl, hfz, hnd⟩ := hW
  have hA : DataW.TrodAll enc Try.prog W 0 (fun _ => true) true Try.f6.params.toList args.toList ds p := hA0
  rw [Try.params6] at hA hval
  obtain ⟨v0, vs0, d0, ds0, p0, q0, hargs, rfl, rfl, h0, r0⟩ := trodAll_cons hA
  obtain ⟨v1, vs1, d1, ds1, p1, q1, rfl, rfl, rfl, h1, r1⟩ := trodAll_cons r0
  obtain ⟨rfl, rfl, rfl⟩ := trodAll_nil r1
  obtain rfl : args = #[v0, v1] := by cases args; simp_all
  obtain ⟨rfl, rfl⟩ := trodVars_none hV
  have k0 := h0
  have lt0 : ∀ x ∈ p0, x.block < W.heap.size := by obtain ⟨m, hm⟩ := k0; exact DataW.trod_lt m _ _ _ hm
  obtain ⟨a0, z0, c0, rfl, w0⟩ := open_evs (hval 0 22 v0 rfl rfl) h0 (fun els sp hd => sized_slice hsz (j := 0) rfl (by rw [hd]; rfl) Try.underlying22)
  have k1 := h1
  have lt1 : ∀ x ∈ p1, x.block < W.heap.size := by obtain ⟨m, hm⟩ := k1; exact DataW.trod_lt m _ _ _ hm
  obtain ⟨a1, rfl, rfl, rfl, w1⟩ := open_int Try.underlying3 (hval 1 3 v1 rfl rfl) h1
  clear hA0 hval0
  refine (traceLess_walk a0 z0 c0 a1 W w0 (wf_i64 w1)).mono fun e W' ⟨he, bel⟩ => ?_
  subst he
  exact ⟨_, rfl, _, _, _, [], _, [], hW', trodAll_mk1 (shut_bool Try.underlying4 _), (trodAll_cons_mk (Below.trod frame_laid (by kernel_rfl) (of_decide_eq_true (by kernel_rfl)) k0 bel lt0) (trodAll_cons_mk (Below.trod frame_laid (by kernel_rfl) (of_decide_eq_true (by kernel_rfl)) k1 bel lt1) trodAll_mk0)), rfl, bel.frame _, fun h => by cases h⟩

theorem traceLess_over : Rows.traceLessRow.holds Try.pinned (OpenSpec.ofChange Rows.traceLessSpec) :=
  OpenClaim.holds_of_wide 6 Try.f6 rfl rfl rfl rfl rfl rfl rfl ⟨rfl, rfl, rfl, rfl, rfl⟩ rfl rfl rfl rfl rfl (by kernel_rfl) Try.func6 (by kernel_rfl)
    (of_decide_eq_true (by kernel_rfl)) (by unfold Func.isWrapper; first | (rw [if_pos (by decide +kernel)]; kernel_rfl) | (rw [if_neg (by decide +kernel)]; exact ⟨rfl, rfl⟩))
    (fun os started H enc _ => traceLess_lifted os started H enc)

/-- The statement. -/
theorem traceLess_holds : Rows.TraceLessSaid := traceLess_over

end Go.Proofs.Ytkkfomggfgfooaa
