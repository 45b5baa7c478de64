/- ClockOrder: 'within' is a partial order, for every three clocks. -/
import Derived.Test.YtoondnobojakfaaClkD
namespace Go.Proofs.Ytoondnobojakfaa
open Go.ChangeShapes Go.WideShapes Go.ChangeAt Go.RowKit

theorem order_ways (f g h : Nat → Int) : cle f f = true ∧ (cle f g = false ∨ cle f g = true ∧ (cle g f = false ∨ cle g f = true ∧ ceq f g = true) ∧ (cle g h = false ∨ cle g h = true ∧ cle f h = true)) := by
  refine ⟨cle_iff.2 fun _ _ => Int.le_refl _, ?_⟩
  cases e1 : cle f g
  · exact .inl rfl
  refine .inr ⟨rfl, ?_, ?_⟩
  · cases e2 : cle g f
    · exact .inl rfl
    · exact .inr ⟨rfl, ceq_iff.2 fun i hi => Int.le_antisymm (cle_iff.1 e1 i hi) (cle_iff.1 e2 i hi)⟩
  · cases e2 : cle g h
    · exact .inl rfl
    · exact .inr ⟨rfl, cle_iff.2 fun i hi => Int.le_trans (cle_iff.1 e1 i hi) (cle_iff.1 e2 i hi)⟩

set_option maxHeartbeats 1000000 in
theorem clockOrder_walk (f g h : Nat → Int) (w : World) (_ : ∀ i, i < 6 → I64 (f i)) (_ : ∀ i, i < 6 → I64 (g i)) (_ : ∀ i, i < 6 → I64 (h i)) :
    Calls Try.prog 3 #[clkV f, clkV g, clkV h] w fun e w' => e = .returned (.bool true) ∧ Below w.heap.size w w' := by
  have heq := eql_clk f g
  obtain ⟨e0, hw⟩ := order_ways f g h
  have hw' : cle f g = false ∨ (cle f g = true ∧ cle g f = false ∧ cle g h = false) ∨ (cle f g = true ∧ cle g f = false ∧ cle g h = true ∧ cle f h = true) ∨
      (cle f g = true ∧ cle g f = true ∧ ceq f g = true ∧ cle g h = false) ∨ (cle f g = true ∧ cle g f = true ∧ ceq f g = true ∧ cle g h = true ∧ cle f h = true) := by
    rcases hw with h | ⟨h, h1 | ⟨h1, h2⟩, h3 | ⟨h3, h4⟩⟩ <;> simp [*]
  clear hw
  go_enter Try.func3, Try.ntmps3
  rcases hw' with e1 | ⟨e1, e2, e3⟩ | ⟨e1, e2, e3, e4⟩ | ⟨e1, e2, e3, e4⟩ | ⟨e1, e2, e3, e4, e5⟩
  all_goals
    go_wp2_with fail
    have T := Three.init w f g h
    generalize ((w.alloc (.cells (clkC f) 23)).alloc (.cells (clkC g) 23)).alloc (.cells (clkC h) 23) = w1 at *
    refine (clocked_any _).mono ?_
    rintro e w2 ⟨rfl, hk⟩
    replace T := T.next hk
    clear hk
    have B := T.box
    go_wp2_with (go_at_call 9; refine (within_any _ _ _).mono ?_; rintro e w' ⟨rfl, hk⟩; replace T := T.next hk; replace B := T.box; clear hk)
    go_ret
    exact ⟨rfl, T.e⟩
/-! The frame of the law ClockOrder, by program. -/
set_option maxRecDepth 100000 in
theorem clockOrder_lifted (os : Os) (started : os.Started) (H : Type) (enc : TypeId × Value → H) :
    ReturnsInHanded {} Try.checked os 3 .any (Rows.clockOrderSpec.pre6 enc Try.prog Try.f3 Rows.clockOrderRow.domain false) (Rows.clockOrderSpec.post enc Try.prog Try.f3 false true false false) := by
  refine returnsInHanded_of_change (C := Try.checked) frame_own started (by kernel_rfl) Try.func3
    (ChangeSpec.witness6 (enc := enc) (C := Try.checked) false ⟨#[], #[.agg #[.int .i64 0, .int .i64 0, .int .i64 0, .int .i64 0, .int .i64 0, .int .i64 0], .agg #[.int .i64 0, .int .i64 0, .int .i64 0, .int .i64 0, .int .i64 0, .int .i64 0], .agg #[.int .i64 0, .int .i64 0, .int .i64 0, .int .i64 0, .int .i64 0, .int .i64 0]], []⟩ 8 (by kernel_rfl) (by kernel_rfl) (by kernel_rfl) (by kernel_rfl)) ?_
  intro W base args ds gs before hval0 hW hcnd hroom
  clear hcnd
  have hval : ∀ (j : Nat) t v, Try.f3.params[j]? = some t → args[j]? = some v → Value.okWide Try.prog W .any base t v := hval0
  have hW' := hW
  obtain ⟨p, q, hA0, hV, rfl, hfz, hnd⟩ := hW
  have hA : DataW.TrodAll enc Try.prog W 0 (fun _ => true) true Try.f3.params.toList args.toList ds p := hA0
  rw [Try.params3] at hA hval
  obtain ⟨v0, vs0, d0, ds0, p0, q0, hargs, rfl, rfl, h0, r0⟩ := trodAll_cons hA
  obtain ⟨v1, vs1, d1, ds1, p1, q1, rfl, rfl, rfl, h1, r1⟩ := trodAll_cons r0
  obtain ⟨v2, vs2, d2, ds2, p2, q2, rfl, rfl, rfl, h2, r2⟩ := trodAll_cons r1
  obtain ⟨rfl, rfl, rfl⟩ := trodAll_nil r2
  obtain rfl : args = #[v0, v1, v2] := by cases args; simp_all
  obtain ⟨rfl, rfl⟩ := trodVars_none hV
  have k0 := h0
  have lt0 : ∀ x ∈ p0, x.block < W.heap.size := by obtain ⟨m, hm⟩ := k0; exact DataW.trod_lt m _ _ _ hm
  obtain ⟨a0, rfl, w0⟩ := open_clk Try.underlying23 Try.underlying3 clk_cells (by kernel_rfl) (hval 0 23 v0 rfl rfl) h0
  have k1 := h1
  have lt1 : ∀ x ∈ p1, x.block < W.heap.size := by obtain ⟨m, hm⟩ := k1; exact DataW.trod_lt m _ _ _ hm
  obtain ⟨a1, rfl, w1⟩ := open_clk Try.underlying23 Try.underlying3 clk_cells (by kernel_rfl) (hval 1 23 v1 rfl rfl) h1
  have k2 := h2
  have lt2 : ∀ x ∈ p2, x.block < W.heap.size := by obtain ⟨m, hm⟩ := k2; exact DataW.trod_lt m _ _ _ hm
  obtain ⟨a2, rfl, w2⟩ := open_clk Try.underlying23 Try.underlying3 clk_cells (by kernel_rfl) (hval 2 23 v2 rfl rfl) h2
  clear hA0 hval0
  refine (clockOrder_walk a0 a1 a2 W w0 w1 w2).mono fun e W' ⟨he, bel⟩ => ?_
  subst he
  exact ⟨_, rfl, _, _, _, [], _, [], hW', trodAll_mk1 (shut_bool Try.underlying4 _), (trodAll_cons_mk (Below.trod frame_laid (by kernel_rfl) (of_decide_eq_true (by kernel_rfl)) k0 bel lt0) (trodAll_cons_mk (Below.trod frame_laid (by kernel_rfl) (of_decide_eq_true (by kernel_rfl)) k1 bel lt1) (trodAll_cons_mk (Below.trod frame_laid (by kernel_rfl) (of_decide_eq_true (by kernel_rfl)) k2 bel lt2) trodAll_mk0))), rfl, bel.frame _, fun h => by cases h⟩

theorem clockOrder_over : Rows.clockOrderRow.holds Try.pinned (OpenSpec.ofChange Rows.clockOrderSpec) :=
  OpenClaim.holds_of_wide 3 Try.f3 rfl rfl rfl rfl rfl rfl rfl ⟨rfl, rfl, rfl, rfl, rfl⟩ rfl rfl rfl rfl rfl (by kernel_rfl) Try.func3 (by kernel_rfl)
    (of_decide_eq_true (by kernel_rfl)) (by unfold Func.isWrapper; first | (rw [if_pos (by decide +kernel)]; kernel_rfl) | (rw [if_neg (by decide +kernel)]; exact ⟨rfl, rfl⟩))
    (fun os started H enc _ => clockOrder_lifted os started H enc)

/-- The statement. -/
theorem clockOrder_holds : Rows.ClockOrderSaid := clockOrder_over

end Go.Proofs.Ytoondnobojakfaa
