/- TraceBegun: exactly thread 0 and the forked threads have begun, and each event belongs to one of them: for every trace. -/
import Derived.Test.YtkkfomggfgfooaaRows
import Derived.Test.YtkkfomggfgfooaaTrE
import Derived.Test.YtkkfomggfgfooaaTrQ
import Derived.Test.YtkkfomggfgfooaaOpenE
namespace Go.Proofs.Ytkkfomggfgfooaa
open Go.ChangeShapes Go.WideShapes Go.ChangeAt Go.RowKit

theorem threads_none (l : List Ev) (h : (played l).2.2 = 0) : (played l).1.begun 0 = true := by
  have hl : l.length ≤ 80 := by
    by_cases hl : l.length ≤ 80
    · exact hl
    · have := played_large.2 (show 80 < l.length by omega); omega
  rw [played_small hl]
  exact playL_begun l _ _ _ rfl
theorem threads_facts (l : List Ev) (h : (played l).2.2 = 0) : (thrL (played l).1 6).length = forksOf l + 1 ∧ (∀ e ∈ l, hasB (thrL (played l).1 6) e.t = true ∧ (e.k = 5 → hasB (thrL (played l).1 6) e.o = true)) := by
  have hl : l.length ≤ 80 := by
    by_cases hl : l.length ≤ 80
    · exact hl
    · have := played_large.2 (show 80 < l.length by omega); omega
  rw [played_small hl] at *
  obtain ⟨h1, h2⟩ := playL_threads l St.first 0 h
  refine ⟨?_, fun e he => ⟨hasB_iff.2 (h2 e he).1, fun hk => hasB_iff.2 ((h2 e he).2 hk)⟩⟩
  rw [thrL_length, h1, show ((List.range 6).filter St.first.begun).length = 1 from rfl]
  omega
theorem thr_head {s : St} (h : s.begun 0 = true) : ∃ r, thrL s 6 = 0 :: r := by
  simp [thrL, List.range_succ, h]
theorem forksOf_snoc (l : List Ev) (e : Ev) : forksOf (l ++ [e]) = forksOf l + (if e.k = 5 then 1 else 0) := by
  simp [forksOf, List.filter_append, List.filter_cons]; split <;> simp
theorem forksOf_le (l : List Ev) : forksOf l ≤ l.length := List.length_filter_le _ _

set_option maxHeartbeats 1000000 in
theorem begun_err (a : Option Addr) (z : List Ev) (c : Nat) (w : World) (h : EvS w a z) (he : (played z).2.2 ≠ 0) :
    Calls Try.prog 5 #[.slice a z.length c] w fun e w' => e = .returned (.bool true) ∧ Below w.heap.size w w' := by
  have e2 : ((played z).2.2 != 0) = true := by simpa using he
  go_enter Try.func5, Try.ntmps5
  go_wp2_with fail
  refine (traced_any _).mono ?_
  rintro r w1 ⟨rfl, hb⟩
  go_wp2_with fail
  refine (threads_err z a c _ (h.below hb) he).mono ?_
  rintro r w2 ⟨rfl, hk⟩
  go_wp2
  go_ret
  exact ⟨rfl, hb.trans (hk.mono hb.size)⟩

set_option maxHeartbeats 2000000 in
theorem begun_ok (a : Option Addr) (z : List Ev) (c : Nat) (w : World) (h : EvS w a z) (he : (played z).2.2 = 0) :
    Calls Try.prog 5 #[.slice a z.length c] w fun e w' => e = .returned (.bool true) ∧ Below w.heap.size w w' := by
  have hbig := h.big
  obtain ⟨f1, f2⟩ := threads_facts z he
  have hl80 : z.length ≤ 80 := by
    by_cases hl : z.length ≤ 80
    · exact hl
    · have := played_large.2 (show 80 < z.length by omega); omega
  obtain ⟨L0, hL0⟩ := thr_head (threads_none z he)
  have F1 := Lib.hid f1
  have F2 := Lib.hid f2
  have FL := Lib.hid hL0
  clear f1 f2 hL0
  go_enter Try.func5, Try.ntmps5
  go_wp2_with fail
  refine (traced_any _).mono ?_
  rintro r w1 ⟨rfl, hb⟩
  go_wp2_with fail
  refine (threads_ok z a c _ (h.below hb) he).mono ?_
  rintro r w2 ⟨v, rfl, hown, hk⟩
  replace hb := hb.trans (hk.mono hb.size)
  replace h := h.below hb
  clear hk
  generalize thrL (played z).1 6 = L at *
  have hlen : L.length ≤ z.length + 1 := by rw [F1.out]; have := forksOf_le z; omega
  have hex : ∃ a' c', v = .slice a' L.length c' ∧ IntS w2 a' L := by
    obtain ⟨a', c', h1, h2, _⟩ := intS_own hown (by omega)
    exact ⟨a', c', h1, h2⟩
  obtain ⟨a', c', hv, hI⟩ := hex
  rw [hv]
  clear hown hv he
  go_wp2
  go_loopw [5, 22] (fun n i wr => ∃ k : Nat, k ≤ z.length ∧ i = .int .i64 k ∧ n = .int .i64 (forksOf (z.take k)) ∧ IntS wr a' L ∧ EvS wr a z ∧ Below w.heap.size w wr) (fun _ i _ => z.length - (intOf i).toNat)
  case atStart => exact ⟨0, Nat.zero_le _, rfl, rfl, hI, h, hb⟩
  case round =>
    clear h hI hb
    obtain ⟨k, hk, rfl, rfl, hI, h, hb⟩ := hrel
    by_cases hlt : k < z.length
    · obtain ⟨b, o, rfl, hc⟩ : ∃ b o, a = some ⟨b, o, none⟩ ∧ _ := by
        rcases h.ok with h0 | h0
        · simp [h0] at hlt
        · exact h0
      obtain ⟨d0, d1, d2⟩ := hc k hlt
      clear hc
      have hx := F2.out z[k] (List.getElem_mem hlt)
      have hsn : forksOf (z.take (k + 1)) = forksOf (z.take k) + (if z[k].k = 5 then 1 else 0) := by rw [List.take_succ_eq_append_getElem hlt, forksOf_snoc]
      have hfl := forksOf_le (z.take k)
      have hfl2 : (z.take k).length ≤ z.length := by simp; omega
      generalize z[k] = x at *
      obtain ⟨hx1, hx2⟩ := hx
      have hI' := hI.below ((Below.refl _ wr).alloc (Nat.le_refl _) (.cells (evC x) 31))
      have h' := h.below ((Below.refl _ wr).alloc (Nat.le_refl _) (.cells (evC x) 31))
      have hb' := hb.alloc hb.size (.cells (evC x) 31)
      have HX1 := Lib.hid hx1
      have HX2 := Lib.hid hx2
      have HS := Lib.hid hsn
      clear hx1 hx2 hsn
      by_cases h5 : x.k = 5
      · have e5 : (x.k == 5) = true := by simpa using h5
        have HN : Hid (forksOf (z.take (k + 1)) = forksOf (z.take k) + 1) := by have := HS.out; rw [if_pos h5] at this; exact Lib.hid this
        have HX3 := Lib.hid (HX2.out h5)
        clear h5 HS HX2
        go_wp2_with fail
        refine (hasInt_any L x.o a' c' _ hI').mono ?_
        rintro r w3 ⟨rfl, rfl⟩
        rw [HX3.out]
        go_wp2_with fail
        refine (hasInt_any L x.t a' c' _ hI').mono ?_
        rintro r w3 ⟨rfl, rfl⟩
        rw [HX1.out]
        go_wp2
        go_roundw
        case rel => exact ⟨k + 1, by omega, by go_num, by rw [HN.out]; go_num, hI', h', hb'⟩
        case measure => simp [intOf]; omega
      · have e5 : (x.k == 5) = false := by simpa using h5
        have HN : Hid (forksOf (z.take (k + 1)) = forksOf (z.take k)) := by have := HS.out; rw [if_neg h5] at this; exact Lib.hid this
        clear h5 HS HX2
        go_wp2_with fail
        refine (hasInt_any L x.t a' c' _ hI').mono ?_
        rintro r w3 ⟨rfl, rfl⟩
        rw [HX1.out]
        go_wp2
        go_roundw
        case rel => exact ⟨k + 1, by omega, by go_num, by rw [HN.out], hI', h', hb'⟩
        case measure => simp [intOf]; omega
    · obtain rfl : k = z.length := by omega
      rw [List.take_length] at *
      obtain ⟨b, o, rfl, hc0⟩ := hI.at (show 0 < L.length by rw [F1.out]; omega)
      have hL : L.length = forksOf z + 1 := F1.out
      have h00 : L[0]'(by rw [hL]; omega) = 0 := by
        have := FL.out
        subst this
        rfl
      rw [h00, Nat.add_zero] at hc0
      have e1 : ((L.length : Int) == (forksOf z : Int) + 1) = true := by simp; omega
      have h0L : (0 : Int) < L.length := by omega
      have hfz := forksOf_le z
      clear h00 hL
      go_wp2
      go_ret
      exact ⟨rfl, hb⟩

theorem traceBegun_walk (a : Option Addr) (z : List Ev) (c : Nat) (w : World) (h : EvS w a z ∧ z.length ≤ c ∧ z.length * 24 ≤ 140737488351232 ∧ ∀ e ∈ z, I64 e.k ∧ I64 e.t ∧ I64 e.o) :
    Calls Try.prog 5 #[.slice a z.length c] w fun e w' => e = .returned (.bool true) ∧ Below w.heap.size w w' := by
  by_cases he : (played z).2.2 = 0
  · exact begun_ok a z c w h.1 he
  · exact begun_err a z c w h.1 he
/-! The frame of the law TraceBegun, by program. -/
set_option maxRecDepth 100000 in
theorem traceBegun_lifted (os : Os) (started : os.Started) (H : Type) (enc : TypeId × Value → H) :
    ReturnsInHanded {} Try.checked os 5 .any (Rows.traceBegunSpec.pre6 enc Try.prog Try.f5 Rows.traceBegunRow.domain false) (Rows.traceBegunSpec.post enc Try.prog Try.f5 false true false false) := by
  refine returnsInHanded_of_change_shaped (C := Try.checked) frame_own started (by kernel_rfl) Try.func5
    (ChangeSpec.witness6 (enc := enc) (C := Try.checked) false ⟨#[], #[.slice none 0 0], []⟩ 8 (by kernel_rfl) (by kernel_rfl) (by kernel_rfl) (by kernel_rfl)) ?_
  intro W base args ds gs before hval0 hW hcnd hsz hshaped hroom
  clear hcnd hshaped
  have hval : ∀ (j : Nat) t v, Try.f5.params[j]? = some t → args[j]? = some v → Value.okWide Try.prog W .any base t v := hval0
  have hW' := hW
  obtain ⟨p, q, hA0, hV, rfl, hfz, hnd⟩ := hW
  have hA : DataW.TrodAll enc Try.prog W 0 (fun _ => true) true Try.f5.params.toList args.toList ds p := hA0
  rw [Try.params5] at hA hval
  obtain ⟨v0, vs0, d0, ds0, p0, q0, hargs, rfl, rfl, h0, r0⟩ := trodAll_cons hA
  obtain ⟨rfl, rfl, rfl⟩ := trodAll_nil r0
  obtain rfl : args = #[v0] := by cases args; simp_all
  obtain ⟨rfl, rfl⟩ := trodVars_none hV
  have k0 := h0
  have lt0 : ∀ x ∈ p0, x.block < W.heap.size := by obtain ⟨m, hm⟩ := k0; exact DataW.trod_lt m _ _ _ hm
  obtain ⟨a0, z0, c0, rfl, w0⟩ := open_evs (hval 0 22 v0 rfl rfl) h0 (fun els sp hd => sized_slice hsz (j := 0) rfl (by rw [hd]; rfl) Try.underlying22)
  clear hA0 hval0
  refine (traceBegun_walk a0 z0 c0 W w0).mono fun e W' ⟨he, bel⟩ => ?_
  subst he
  exact ⟨_, rfl, _, _, _, [], _, [], hW', trodAll_mk1 (shut_bool Try.underlying4 _), (trodAll_cons_mk (Below.trod frame_laid (by kernel_rfl) (of_decide_eq_true (by kernel_rfl)) k0 bel lt0) trodAll_mk0), rfl, bel.frame _, fun h => by cases h⟩

theorem traceBegun_over : Rows.traceBegunRow.holds Try.pinned (OpenSpec.ofChange Rows.traceBegunSpec) :=
  OpenClaim.holds_of_wide 5 Try.f5 rfl rfl rfl rfl rfl rfl rfl ⟨rfl, rfl, rfl, rfl, rfl⟩ rfl rfl rfl rfl rfl (by kernel_rfl) Try.func5 (by kernel_rfl)
    (of_decide_eq_true (by kernel_rfl)) (by unfold Func.isWrapper; first | (rw [if_pos (by decide +kernel)]; kernel_rfl) | (rw [if_neg (by decide +kernel)]; exact ⟨rfl, rfl⟩))
    (fun os started H enc _ => traceBegun_lifted os started H enc)

/-- The statement. -/
theorem traceBegun_holds : Rows.TraceBegunSaid := traceBegun_over

end Go.Proofs.Ytkkfomggfgfooaa
