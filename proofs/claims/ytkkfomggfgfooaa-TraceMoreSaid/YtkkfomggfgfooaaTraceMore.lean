/- TraceMore: whether an appended event is an error does not depend on the events after it: for every trace, event and further events. -/
import Derived.Test.YtkkfomggfgfooaaRows
import Derived.Test.YtkkfomggfgfooaaTrE
import Derived.Test.YtkkfomggfgfooaaTrQ
import Derived.Test.YtkkfomggfgfooaaEvs
import Derived.Test.YtkkfomggfgfooaaOpenE
import Derived.Deep.RegionHeld3
import Derived.Deep.RegionLaw
namespace Go.Proofs.Ytkkfomggfgfooaa
open Go.ChangeShapes Go.WideShapes Go.ChangeAt Go.RowKit

/-- An event more: right, or wrong where it stands, whatever follows. -/
theorem more_facts {l m : List Ev} {x : Ev} (h : mayB l = true) (hn : l.length + 1 + m.length ≤ 80) :
    ((played (l ++ [x])).2.2 = 0 ∧ (played (l ++ [x])).2.1 = 0) ∨ ((played (l ++ [x])).2.2 ≠ 0 ∧ (played (l ++ [x])).2.1 = l.length ∧ (played (l ++ x :: m)).2.1 = l.length ∧ (played (l ++ x :: m)).2.2 = (played (l ++ [x])).2.2) := by
  obtain ⟨h1, h2⟩ := mayB_iff.1 h
  have e1 : played (l ++ [x]) = playL St.first 0 (l ++ [x]) := played_small (by simp; omega)
  have e2 : played (l ++ x :: m) = playL St.first 0 (l ++ [x] ++ m) := by rw [played_small (by simp; omega)]; simp
  rw [e1, e2]
  by_cases h0 : (playL St.first 0 (l ++ [x])).2.2 = 0
  · exact .inl ⟨h0, playL_at0 _ _ _ h0⟩
  · right
    have h3 : (playL St.first 0 (l ++ [x])).2.1 = l.length := by
      rw [playL_append, if_pos h2] at h0 ⊢
      simp only [playL] at h0 ⊢
      split at h0
      · exact absurd rfl h0
      · rename_i he; rw [if_neg he]; simp
    have h4 : playL St.first 0 (l ++ [x] ++ m) = playL St.first 0 (l ++ [x]) := by rw [playL_append m, if_neg h0]
    exact ⟨h0, h3, by rw [h4, h3], by rw [h4]⟩

set_option maxHeartbeats 40000000 in
theorem more_ok (a a2 : Option Addr) (z y : List Ev) (x : Ev) (c cy : Nat) (w : World) (h : EvS w a z) (h2 : EvS w a2 y) (hm : mayB z = true) (hn : z.length + 1 + y.length ≤ 80) :
    Calls Try.prog 4 #[.slice a z.length c, evV x, .slice a2 y.length cy] w fun e w' => e = .returned (.bool true) ∧ Below w.heap.size w w' := by
  obtain ⟨i0, hi, hz0, hz1, hz2⟩ := info_parts infoE
  have HF := Lib.hid (more_facts (x := x) hm hn)
  have HM := Lib.hid hm
  clear hm
  have hn0 : (z.length : Int) + 1 ≤ 80 := by omega
  have hn1 : ¬ (80 : Int) < (z.length : Int) + 1 + y.length := by omega
  go_enter Try.func4, Try.ntmps4
  go_wp2_with fail
  have h0 := Has.new w (evC x) 31
  have hb : Below w.heap.size w (w.alloc (.cells (evC x) 31)) := (Below.refl _ _).alloc (by simp) _
  generalize w.alloc (.cells (evC x) 31) = w1 at *
  refine (traced_any _).mono ?_
  rintro r w2 ⟨rfl, hk⟩
  replace hb := hb.trans (hk.mono hb.size)
  replace h0 := h0.below hk h0.lt
  clear hk
  go_wp2_with fail
  refine (may_any z _ c _ (h.below hb)).mono ?_
  rintro r w3 ⟨rfl, hk⟩
  rw [HM.out]
  replace hb := hb.trans (hk.mono hb.size)
  replace h0 := h0.below hk h0.lt
  replace h := h.below hb
  replace h2 := h2.below hb
  clear hk
  go_wp2_with fail
  have S1 := h.src.below (Below.refl _ _).drew
  have c0 : w3.cell? ⟨w.heap.size, 0, none⟩ = some (.int .i64 x.k) := h0.cell rfl
  have c1 : w3.cell? ⟨w.heap.size, 1, none⟩ = some (.int .i64 x.t) := h0.cell rfl
  have c2 : w3.cell? ⟨w.heap.size, 2, none⟩ = some (.int .i64 x.o) := h0.cell rfl
  go_region_law (first
    | (refine app_step _ rfl (.const (.slice none 0 0)) (.tmp 26) 22 rfl Try.underlying22 hi hz0 hz1 hz2 rfl (by decide) (v := .slice none 0 0) (n := 0) (xs := []) rfl (World.ownsRow_nil _ w3.heap.size _ _) rfl (by first | exact S1 | exact S1.below ((Below.refl _ _).alloc (Nat.le_refl _) _)) (evL_one _) (by unfold maxLen; omega) (by omega) (by simp) ?_; intro v1 x1 hA1; have g0 : Has x1 w.heap.size (evC x) 31 := (by first | exact h0.drew.below hA1.fresh h0.drew.lt | exact (h0.drew.alloc _).below hA1.fresh (h0.drew.alloc _).lt); have k0 : x1.cell? ⟨w.heap.size, 0, none⟩ = some (.int .i64 x.k) := g0.cell rfl; have k1 : x1.cell? ⟨w.heap.size, 1, none⟩ = some (.int .i64 x.t) := g0.cell rfl; have k2 : x1.cell? ⟨w.heap.size, 2, none⟩ = some (.int .i64 x.o) := g0.cell rfl)
    | (refine app_step _ rfl (.tmp 27) (.tmp 29) 22 rfl Try.underlying22 hi hz0 hz1 hz2 rfl (by decide) rfl (by first | exact hA1.own | exact hA1.own.alloc _) rfl (by first | exact (evS_full (l := [x]) (Has.new x1 (evC x) 31) rfl (by simp)).src | exact ((evS_full (l := [x]) (Has.new w3.drew (evC x) 31) rfl (by simp)).below hA1.fresh).src) (evL_one _) (by unfold maxLen; simp; omega) (by simp; omega) (by have := hA1.grown.size; simp at this ⊢; omega) ?_; intro v2 x2 hA2)
    | (go_simp; go_at_call 12; obtain ⟨a', c', hv, hS⟩ := hA2.evs (l := z ++ [x]) (by rw [evL_append]; rfl) (by simp) (by simp; omega); rw [hv]; refine (check_any (z ++ [x]) a' c' _ hS).mono ?_; rintro r x3 ⟨rfl, hk3⟩))
  all_goals
    have hx1 : Below w3.heap.size w3 x1 := by first | exact (Below.refl _ _).drew.trans hA1.fresh | exact ((Below.refl _ _).drew.alloc (by simp) _).trans (hA1.fresh.mono (by simp))
    have hx2 : Below w3.heap.size w3 x2 := by first | exact hA2.below hA1.own hx1 hx1.size | exact hA2.below (hA1.own.alloc _) (hx1.alloc hx1.size _) (by simp; have := hx1.size; omega)
    have hx3 := hx2.trans (hk3.mono hx2.size)
    have j0 := h0.below hx3 h0.lt
    have jz := h.below hx3
    have jy := h2.below hx3
    have jb := hb.trans (hx3.mono hb.size)
    clear hx1 hx2 hx3 hk3 hA1 hA2 hv hS S1 c0 c1 c2 g0 k0 k1 k2
    try clear v1 x1
    have jl := jb.size
  all_goals
    go_wp2_with fail
  all_goals
    have S1 := jz.src.below (Below.refl _ _).drew
    have S3 := jy.src
    have c0 : x3.cell? ⟨w.heap.size, 0, none⟩ = some (.int .i64 x.k) := j0.cell rfl
    have c1 : x3.cell? ⟨w.heap.size, 1, none⟩ = some (.int .i64 x.t) := j0.cell rfl
    have c2 : x3.cell? ⟨w.heap.size, 2, none⟩ = some (.int .i64 x.o) := j0.cell rfl
  all_goals
    go_region_law (first
    | (refine app_step _ rfl (.const (.slice none 0 0)) (.tmp 35) 22 rfl Try.underlying22 hi hz0 hz1 hz2 rfl (by decide) (v := .slice none 0 0) (n := 0) (xs := []) rfl (World.ownsRow_nil _ x3.heap.size _ _) rfl (by first | exact S1 | exact S1.below ((Below.refl _ _).alloc (Nat.le_refl _) _)) (evL_one _) (by unfold maxLen; omega) (by omega) (by simp) ?_; intro v1 u1 hA1; have g0 : Has u1 w.heap.size (evC x) 31 := (by first | exact j0.drew.below hA1.fresh j0.drew.lt | exact (j0.drew.alloc _).below hA1.fresh (j0.drew.alloc _).lt); have k0 : u1.cell? ⟨w.heap.size, 0, none⟩ = some (.int .i64 x.k) := g0.cell rfl; have k1 : u1.cell? ⟨w.heap.size, 1, none⟩ = some (.int .i64 x.t) := g0.cell rfl; have k2 : u1.cell? ⟨w.heap.size, 2, none⟩ = some (.int .i64 x.o) := g0.cell rfl; have hu1 : Below x3.heap.size x3 u1 := by first | exact (Below.refl _ _).drew.trans hA1.fresh | exact ((Below.refl _ _).drew.alloc (by simp) _).trans (hA1.fresh.mono (by simp)))
    | (refine app_step _ rfl (.tmp 36) (.tmp 38) 22 rfl Try.underlying22 hi hz0 hz1 hz2 rfl (by decide) rfl (by first | exact hA1.own | exact hA1.own.alloc _) rfl (by first | exact (evS_full (l := [x]) (Has.new u1 (evC x) 31) rfl (by simp)).src | exact ((evS_full (l := [x]) (Has.new x3.drew (evC x) 31) rfl (by simp)).below hA1.fresh).src) (evL_one _) (by unfold maxLen; simp; omega) (by simp; omega) (by have := hA1.grown.size; simp at this ⊢; omega) ?_; intro v2 u2 hA2; have hu2 : Below x3.heap.size x3 u2 := by first | exact hA2.below hA1.own hu1 hu1.size | exact hA2.below (hA1.own.alloc _) (hu1.alloc hu1.size _) (by simp; have := hu1.size; omega))
    | (refine app_step _ rfl (.tmp 39) (.tmp 40) 22 rfl Try.underlying22 hi hz0 hz1 hz2 rfl (by decide) rfl hA2.own rfl (by exact S3.below hu2) (evL_one _) (by unfold maxLen; simp; omega) (by simp; omega) (by exact hu2.size) ?_; intro v3 u3 hA3; have hu3 : Below x3.heap.size x3 u3 := hA3.below hA2.own hu2 hu2.size)
    | (go_simp; go_at_call 12; obtain ⟨a', c', hv, hS⟩ := hA3.evs (l := z ++ [x] ++ y) (by rw [evL_append, evL_append]; rfl) (by simp; omega) (by simp; omega); rw [hv]; refine (check_any (z ++ [x] ++ y) a' c' _ hS).mono ?_; rintro r u4 ⟨rfl, hk4⟩))
  all_goals
    have hu4 := hu3.trans (hk4.mono hu3.size)
    have ub := jb.trans (hu4.mono jb.size)
    clear hu1 hu2 hu3 hk4 hA1 hA2 hA3 hv hS S1 S3 c0 c1 c2 g0 k0 k1 k2 hu4 j0 jz jy jb
    rcases HF.out with ⟨p1, p2⟩ | ⟨p1, p2, p3, p4⟩
  all_goals
    first
    | (rw [p1, p2]; clear p1 p2; generalize (played (z ++ x :: y)).2.1 = q1; generalize (played (z ++ x :: y)).2.2 = q2; clear HF; go_wp2; go_ret; exact ⟨rfl, ub⟩)
    | (rw [p3, p4, p2]; clear p3 p4 p2; have e1 : ((played (z ++ [x])).2.2 == 0) = false := (by simpa using p1); have e2 : ((played (z ++ [x])).2.2 != 0) = true := (by simpa using p1); clear p1 HF; generalize (played (z ++ [x])).2.2 = q2 at *; go_wp2; go_ret; exact ⟨rfl, ub⟩)

set_option maxHeartbeats 1000000 in
theorem more_no (a a2 : Option Addr) (z y : List Ev) (x : Ev) (c cy : Nat) (w : World) (h : EvS w a z) (hm : mayB z = false) :
    Calls Try.prog 4 #[.slice a z.length c, evV x, .slice a2 y.length cy] w fun e w' => e = .returned (.bool true) ∧ Below w.heap.size w w' := by
  have HM := Lib.hid hm
  clear hm
  go_enter Try.func4, Try.ntmps4
  go_wp2_with fail
  have hb : Below w.heap.size w (w.alloc (.cells (evC x) 31)) := (Below.refl _ _).alloc (by simp) _
  generalize w.alloc (.cells (evC x) 31) = w1 at *
  refine (traced_any _).mono ?_
  rintro r w2 ⟨rfl, hk⟩
  replace hb := hb.trans (hk.mono hb.size)
  clear hk
  go_wp2_with fail
  refine (may_any z _ c _ (h.below hb)).mono ?_
  rintro r w3 ⟨rfl, hk⟩
  rw [HM.out]
  replace hb := hb.trans (hk.mono hb.size)
  go_wp2
  go_ret
  exact ⟨rfl, hb⟩
set_option maxHeartbeats 1000000 in
theorem more_long (a a2 : Option Addr) (z y : List Ev) (x : Ev) (c cy : Nat) (w : World) (h : EvS w a z) (hm : mayB z = true) (hz : z.length * 24 ≤ 140737488351232) (hy : y.length * 24 ≤ 140737488351232) (hn : 80 < z.length + 1 + y.length) :
    Calls Try.prog 4 #[.slice a z.length c, evV x, .slice a2 y.length cy] w fun e w' => e = .returned (.bool true) ∧ Below w.heap.size w w' := by
  have HM := Lib.hid hm
  clear hm
  have hn1 : (80 : Int) < (z.length : Int) + 1 + y.length := by omega
  go_enter Try.func4, Try.ntmps4
  go_wp2_with fail
  have hb : Below w.heap.size w (w.alloc (.cells (evC x) 31)) := (Below.refl _ _).alloc (by simp) _
  generalize w.alloc (.cells (evC x) 31) = w1 at *
  refine (traced_any _).mono ?_
  rintro r w2 ⟨rfl, hk⟩
  replace hb := hb.trans (hk.mono hb.size)
  clear hk
  go_wp2_with fail
  refine (may_any z _ c _ (h.below hb)).mono ?_
  rintro r w3 ⟨rfl, hk⟩
  rw [HM.out]
  replace hb := hb.trans (hk.mono hb.size)
  go_wp2
  go_ret
  exact ⟨rfl, hb⟩
theorem traceMore_walk (a : Option Addr) (z : List Ev) (c : Nat) (x : Ev) (a2 : Option Addr) (y : List Ev) (cy : Nat) (w : World) (h : EvS w a z ∧ z.length ≤ c ∧ z.length * 24 ≤ 140737488351232 ∧ ∀ e ∈ z, I64 e.k ∧ I64 e.t ∧ I64 e.o) (_ : I64 x.k ∧ I64 x.t ∧ I64 x.o) (h2 : EvS w a2 y ∧ y.length ≤ cy ∧ y.length * 24 ≤ 140737488351232 ∧ ∀ e ∈ y, I64 e.k ∧ I64 e.t ∧ I64 e.o) :
    Calls Try.prog 4 #[.slice a z.length c, evV x, .slice a2 y.length cy] w fun e w' => e = .returned (.bool true) ∧ Below w.heap.size w w' := by
  by_cases hm : mayB z = true
  · by_cases hn : z.length + 1 + y.length ≤ 80
    · exact more_ok a a2 z y x c cy w h.1 h2.1 hm hn
    · exact more_long a a2 z y x c cy w h.1 hm h.2.2.1 h2.2.2.1 (by omega)
  · exact more_no a a2 z y x c cy w h.1 (by simpa using hm)
/-! The frame of the law TraceMore, by program. -/
set_option maxRecDepth 100000 in
theorem traceMore_lifted (os : Os) (started : os.Started) (H : Type) (enc : TypeId × Value → H) :
    ReturnsInHanded {} Try.checked os 4 .any (Rows.traceMoreSpec.pre6 enc Try.prog Try.f4 Rows.traceMoreRow.domain false) (Rows.traceMoreSpec.post enc Try.prog Try.f4 false true false false) := by
  refine returnsInHanded_of_change_shaped (C := Try.checked) frame_own started (by kernel_rfl) Try.func4
    (ChangeSpec.witness6 (enc := enc) (C := Try.checked) false ⟨#[], #[.slice none 0 0, .agg #[.int .i64 0, .int .i64 0, .int .i64 0], .slice none 0 0], []⟩ 8 (by kernel_rfl) (by kernel_rfl) (by kernel_rfl) (by kernel_rfl)) ?_
  intro W base args ds gs before hval0 hW hcnd hsz hshaped hroom
  clear hcnd hshaped
  have hval : ∀ (j : Nat) t v, Try.f4.params[j]? = some t → args[j]? = some v → Value.okWide Try.prog W .any base t v := hval0
  have hW' := hW
  obtain ⟨p, q, hA0, hV, rfl, hfz, hnd⟩ := hW
  have hA : DataW.TrodAll enc Try.prog W 0 (fun _ => true) true Try.f4.params.toList args.toList ds p := hA0
  rw [Try.params4] at hA hval
  obtain ⟨v0, vs0, d0, ds0, p0, q0, hargs, rfl, rfl, h0, r0⟩ := trodAll_cons hA
  obtain ⟨v1, vs1, d1, ds1, p1, q1, rfl, rfl, rfl, h1, r1⟩ := trodAll_cons r0
  obtain ⟨v2, vs2, d2, ds2, p2, q2, rfl, rfl, rfl, h2, r2⟩ := trodAll_cons r1
  obtain ⟨rfl, rfl, rfl⟩ := trodAll_nil r2
  obtain rfl : args = #[v0, v1, v2] := by cases args; simp_all
  obtain ⟨rfl, rfl⟩ := trodVars_none hV
  have k0 := h0
  have lt0 : ∀ x ∈ p0, x.block < W.heap.size := by obtain ⟨m, hm⟩ := k0; exact DataW.trod_lt m _ _ _ hm
  obtain ⟨a0, z0, c0, rfl, w0⟩ := open_evs (hval 0 22 v0 rfl rfl) h0 (fun els sp hd => sized_slice hsz (j := 0) rfl (by rw [hd]; rfl) Try.underlying22)
  have k1 := h1
  have lt1 : ∀ x ∈ p1, x.block < W.heap.size := by obtain ⟨m, hm⟩ := k1; exact DataW.trod_lt m _ _ _ hm
  obtain ⟨a1, rfl, w1⟩ := open_ev (hval 1 31 v1 rfl rfl) h1
  have k2 := h2
  have lt2 : ∀ x ∈ p2, x.block < W.heap.size := by obtain ⟨m, hm⟩ := k2; exact DataW.trod_lt m _ _ _ hm
  obtain ⟨a2, z2, c2, rfl, w2⟩ := open_evs (hval 2 22 v2 rfl rfl) h2 (fun els sp hd => sized_slice hsz (j := 2) rfl (by rw [hd]; rfl) Try.underlying22)
  clear hA0 hval0
  refine (traceMore_walk a0 z0 c0 a1 a2 z2 c2 W w0 w1 w2).mono fun e W' ⟨he, bel⟩ => ?_
  subst he
  exact ⟨_, rfl, _, _, _, [], _, [], hW', trodAll_mk1 (shut_bool Try.underlying4 _), (trodAll_cons_mk (Below.trod frame_laid (by kernel_rfl) (of_decide_eq_true (by kernel_rfl)) k0 bel lt0) (trodAll_cons_mk (Below.trod frame_laid (by kernel_rfl) (of_decide_eq_true (by kernel_rfl)) k1 bel lt1) (trodAll_cons_mk (Below.trod frame_laid (by kernel_rfl) (of_decide_eq_true (by kernel_rfl)) k2 bel lt2) trodAll_mk0))), rfl, bel.frame _, fun h => by cases h⟩

theorem traceMore_over : Rows.traceMoreRow.holds Try.pinned (OpenSpec.ofChange Rows.traceMoreSpec) :=
  OpenClaim.holds_of_wide 4 Try.f4 rfl rfl rfl rfl rfl rfl rfl ⟨rfl, rfl, rfl, rfl, rfl⟩ rfl rfl rfl rfl rfl (by kernel_rfl) Try.func4 (by kernel_rfl)
    (of_decide_eq_true (by kernel_rfl)) (by unfold Func.isWrapper; first | (rw [if_pos (by decide +kernel)]; kernel_rfl) | (rw [if_neg (by decide +kernel)]; exact ⟨rfl, rfl⟩))
    (fun os started H enc _ => traceMore_lifted os started H enc)

/-- The statement. -/
theorem traceMore_holds : Rows.TraceMoreSaid := traceMore_over

end Go.Proofs.Ytkkfomggfgfooaa
