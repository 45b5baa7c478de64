/- SwapBack: independence is symmetric, and swapping twice restores the trace: for every trace, every number, every two events. -/
import Derived.Test.YtjpopjjjnaapnaaRows
import Derived.Test.YtjpopjjjnaapnaaSwpC
import Derived.Test.YtjpopjjjnaapnaaOpenE
import Derived.Deep.RegionHeld3
namespace Go.Proofs.Ytjpopjjjnaapnaa
open Go.ChangeShapes Go.WideShapes Go.ChangeAt Go.RowKit

/-- Two events in their boxes. -/
structure TwoE (w0 w : World) (x y : Ev) : Prop where
  a : Has w w0.heap.size (evC x) 43
  b : Has w (w0.heap.size + 1) (evC y) 43
  e : Below w0.heap.size w0 w
theorem TwoE.next {w0 w w' : World} {x y : Ev} (s : TwoE w0 w x y) (k : Below w.heap.size w w') : TwoE w0 w' x y := ⟨s.a.below k s.a.lt, s.b.below k s.b.lt, s.e.trans (k.mono s.e.size)⟩
abbrev TwoAt (w0 w : World) (x y : Ev) : Prop := (w.cell? ⟨w0.heap.size, 0, none⟩ = some (.int .i64 x.k) ∧ w.cell? ⟨w0.heap.size, 1, none⟩ = some (.int .i64 x.t) ∧ w.cell? ⟨w0.heap.size, 2, none⟩ = some (.int .i64 x.o)) ∧ (w.cell? ⟨w0.heap.size + 1, 0, none⟩ = some (.int .i64 y.k) ∧ w.cell? ⟨w0.heap.size + 1, 1, none⟩ = some (.int .i64 y.t) ∧ w.cell? ⟨w0.heap.size + 1, 2, none⟩ = some (.int .i64 y.o))
theorem TwoE.box {w0 w : World} {x y : Ev} (s : TwoE w0 w x y) : TwoAt w0 w x y := ⟨⟨s.a.cell rfl, s.a.cell rfl, s.a.cell rfl⟩, s.b.cell rfl, s.b.cell rfl, s.b.cell rfl⟩

set_option maxRecDepth 100000 in
set_option maxHeartbeats 4000000 in
theorem swapBack_walk (a : Option Addr) (z : List Ev) (c : Nat) (n : Int) (x y : Ev) (w : World) (hf : EvS w a z ∧ z.length ≤ c ∧ z.length * 24 ≤ 140737488351232 ∧ ∀ e ∈ z, I64 e.k ∧ I64 e.t ∧ I64 e.o) (_ : I64 n) (_ : I64 x.k ∧ I64 x.t ∧ I64 x.o) (_ : I64 y.k ∧ I64 y.t ∧ I64 y.o) :
    Calls Try.prog 9 #[.slice a z.length c, .int .i64 n, evV x, evV y] w fun e w' => e = .returned (.bool true) ∧ Below w.heap.size w w' := by
  have h := hf.1
  obtain ⟨q, hq⟩ : ∃ q, apartB x y = q := ⟨_, rfl⟩
  have H1 := Lib.hid hq
  have H2 := Lib.hid ((apartB_symm y x).trans hq)
  have H3 := Lib.hid (apartB_self x)
  clear hq
  have T0 : TwoE w ((w.alloc (.cells (evC x) 43)).alloc (.cells (evC y) 43)) x y := ⟨(Has.new w _ _).alloc _, (Has.new (w.alloc _) _ _).at (by simp), ((Below.refl _ _).alloc (by simp) _).alloc (by simp) _⟩
  go_enter Try.func9, Try.ntmps9
  go_upto_region 1 with fail
  generalize (w.alloc (.cells (evC x) 43)).alloc (.cells (evC y) 43) = w1 at *
  have T := T0.next (Below.refl _ _).drew
  have B := T0.box
  cases q
  all_goals
    go_region_held3 (fun W => TwoE w W x y ∧ TwoAt w W x y) (first | exact ⟨T, T.box⟩)
      (first
        | (go_at_call 26; refine (swapped_any _).mono ?_; rintro e w' ⟨rfl, hk⟩; replace T := T.next hk; clear hk)
        | (go_at_call 27; refine (apart_any _ _ _).mono ?_; rintro e w' ⟨rfl, hk⟩; replace T := T.next hk; clear hk; first | rw [H1.out] | rw [H2.out] | rw [H3.out]))
  all_goals
    have hT := T.e
    clear T B T0 H1 H2 H3
  all_goals
    cases hs : swOk z n
    · have HS := Lib.hid hs
      clear hs
      go_wp2_with fail
      refine (swap_no z a c n _ (h.below hT) HS.out).mono ?_
      rintro r w3 ⟨e, he, rfl, hk3⟩
      have he2 : (e != 0) = true := by simpa using he
      replace hT := hT.trans (hk3.mono hT.size)
      go_wp2
      go_ret
      exact ⟨rfl, hT⟩
    · obtain ⟨k, hk, rfl, hp, hA⟩ := swOk_at hs
      obtain ⟨hp2, _⟩ := played_sw hk hA hp
      have hA2 := (sw_apart hk).trans hA
      have hss := sw_sw hk
      have hne := sw_ne hk hA
      have hl := sw_len z k
      have hsw := fun W (a : Option Addr) (c : Nat) (hW : EvS W a (sw z k)) => swap_ok (sw z k) a c k W hW hp2 (by rw [hl]; exact hk) hA2
      have hsw1 := fun W (hW : EvS W a z) => swap_ok z a c k W hW hp hk hA
      rw [hss] at hsw
      have heq := fun W (a a' : Option Addr) (c c' : Nat) (h1 : EvS W a (sw z k)) (h2 : EvS W a' z) => eqEv_any (sw z k) z a a' c c' W h1 h2
      have hee := fun W (a a' : Option Addr) (c c' : Nat) (h1 : EvS W a z) (h2 : EvS W a' z) => eqEv_any z z a a' c c' W h1 h2
      rw [show eqB (sw z k) z = false by simp [eqB, hne]] at heq
      rw [show eqB z z = true by simp [eqB]] at hee
      have K1 := Lib.hid hsw1
      have K2 := Lib.hid hsw
      have K3 := Lib.hid heq
      have K4 := Lib.hid hee
      clear hs hp hA hp2 hA2 hss hne hl hsw hsw1 heq hee
      generalize sw z k = m at *
      go_wp2_with fail
      refine (K1.out _ (h.below hT)).mono ?_
      rintro r w3 ⟨a1, c1, rfl, hM, _, hk3⟩
      replace hT := hT.trans (hk3.mono hT.size)
      clear hk3 K1
      go_wp2_with fail
      refine (K2.out _ _ _ hM).mono ?_
      rintro r w4 ⟨a2, c2, rfl, hN, _, hk4⟩
      replace hT := hT.trans (hk4.mono hT.size)
      replace hM := hM.below hk4
      clear hk4 K2
      go_wp2_with fail
      refine (K4.out _ _ _ _ _ hN (h.below hT)).mono ?_
      rintro r w5 ⟨rfl, hk5⟩
      replace hT := hT.trans (hk5.mono hT.size)
      replace hM := hM.below hk5
      clear hk5 K4 hN
      go_wp2_with fail
      refine (K3.out _ _ _ _ _ hM (h.below hT)).mono ?_
      rintro r w6 ⟨rfl, hk6⟩
      replace hT := hT.trans (hk6.mono hT.size)
      go_wp2
      go_ret
      exact ⟨rfl, hT⟩
/-! The frame of the law SwapBack, by program. -/
set_option maxRecDepth 100000 in
theorem swapBack_lifted (os : Os) (started : os.Started) (H : Type) (enc : TypeId × Value → H) :
    ReturnsInHanded {} Try.checked os 9 .any (Rows.swapBackSpec.pre6 enc Try.prog Try.f9 Rows.swapBackRow.domain false) (Rows.swapBackSpec.post enc Try.prog Try.f9 false true false false) := by
  refine returnsInHanded_of_change_shaped (C := Try.checked) frame_own started (by kernel_rfl) Try.func9
    (ChangeSpec.witness6 (enc := enc) (C := Try.checked) false ⟨#[], #[.slice none 0 0, .int .i64 0, .agg #[.int .i64 0, .int .i64 0, .int .i64 0], .agg #[.int .i64 0, .int .i64 0, .int .i64 0]], []⟩ 8 (by kernel_rfl) (by kernel_rfl) (by kernel_rfl) (by kernel_rfl)) ?_
  intro W base args ds gs before hval0 hW hcnd hsz hshaped hroom
  clear hcnd hshaped
  have hval : ∀ (j : Nat) t v, Try.f9.params[j]? = some t → args[j]? = some v → Value.okWide Try.prog W .any base t v := hval0
  have hW' := hW
  obtain ⟨p, q, hA0, hV, rfl, hfz, hnd⟩ := hW
  have hA : DataW.TrodAll enc Try.prog W 0 (fun _ => true) true Try.f9.params.toList args.toList ds p := hA0
  rw [Try.params9] at hA hval
  obtain ⟨v0, vs0, d0, ds0, p0, q0, hargs, rfl, rfl, h0, r0⟩ := trodAll_cons hA
  obtain ⟨v1, vs1, d1, ds1, p1, q1, rfl, rfl, rfl, h1, r1⟩ := trodAll_cons r0
  obtain ⟨v2, vs2, d2, ds2, p2, q2, rfl, rfl, rfl, h2, r2⟩ := trodAll_cons r1
  obtain ⟨v3, vs3, d3, ds3, p3, q3, rfl, rfl, rfl, h3, r3⟩ := trodAll_cons r2
  obtain ⟨rfl, rfl, rfl⟩ := trodAll_nil r3
  obtain rfl : args = #[v0, v1, v2, v3] := by cases args; simp_all
  obtain ⟨rfl, rfl⟩ := trodVars_none hV
  have k0 := h0
  have lt0 : ∀ x ∈ p0, x.block < W.heap.size := by obtain ⟨m, hm⟩ := k0; exact DataW.trod_lt m _ _ _ hm
  obtain ⟨a0, z0, c0, rfl, w0⟩ := open_evs (hval 0 37 v0 rfl rfl) h0 (fun els sp hd => sized_slice hsz (j := 0) rfl (by rw [hd]; rfl) Try.underlying37)
  have k1 := h1
  have lt1 : ∀ x ∈ p1, x.block < W.heap.size := by obtain ⟨m, hm⟩ := k1; exact DataW.trod_lt m _ _ _ hm
  obtain ⟨a1, rfl, rfl, rfl, w1⟩ := open_int Try.underlying3 (hval 1 3 v1 rfl rfl) h1
  have k2 := h2
  have lt2 : ∀ x ∈ p2, x.block < W.heap.size := by obtain ⟨m, hm⟩ := k2; exact DataW.trod_lt m _ _ _ hm
  obtain ⟨a2, rfl, w2⟩ := open_ev (hval 2 43 v2 rfl rfl) h2
  have k3 := h3
  have lt3 : ∀ x ∈ p3, x.block < W.heap.size := by obtain ⟨m, hm⟩ := k3; exact DataW.trod_lt m _ _ _ hm
  obtain ⟨a3, rfl, w3⟩ := open_ev (hval 3 43 v3 rfl rfl) h3
  clear hA0 hval0
  refine (swapBack_walk a0 z0 c0 a1 a2 a3 W w0 (wf_i64 w1) w2 w3).mono fun e W' ⟨he, bel⟩ => ?_
  subst he
  exact ⟨_, rfl, _, _, _, [], _, [], hW', trodAll_mk1 (shut_bool Try.underlying4 _), (trodAll_cons_mk (Below.trod frame_laid (by kernel_rfl) (of_decide_eq_true (by kernel_rfl)) k0 bel lt0) (trodAll_cons_mk (Below.trod frame_laid (by kernel_rfl) (of_decide_eq_true (by kernel_rfl)) k1 bel lt1) (trodAll_cons_mk (Below.trod frame_laid (by kernel_rfl) (of_decide_eq_true (by kernel_rfl)) k2 bel lt2) (trodAll_cons_mk (Below.trod frame_laid (by kernel_rfl) (of_decide_eq_true (by kernel_rfl)) k3 bel lt3) trodAll_mk0)))), rfl, bel.frame _, fun h => by cases h⟩

theorem swapBack_over : Rows.swapBackRow.holds Try.pinned (OpenSpec.ofChange Rows.swapBackSpec) :=
  OpenClaim.holds_of_wide 9 Try.f9 rfl rfl rfl rfl rfl rfl rfl ⟨rfl, rfl, rfl, rfl, rfl⟩ rfl rfl rfl rfl rfl (by kernel_rfl) Try.func9 (by kernel_rfl)
    (of_decide_eq_true (by kernel_rfl)) (by unfold Func.isWrapper; first | (rw [if_pos (by decide +kernel)]; kernel_rfl) | (rw [if_neg (by decide +kernel)]; exact ⟨rfl, rfl⟩))
    (fun os started H enc _ => swapBack_lifted os started H enc)

/-- The statement. -/
theorem swapBack_holds : Rows.SwapBackSaid := swapBack_over

end Go.Proofs.Ytjpopjjjnaapnaa
