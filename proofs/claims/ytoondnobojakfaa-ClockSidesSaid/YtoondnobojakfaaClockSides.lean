/- ClockSides: exchanging the arguments exchanges Before and After, for every two clocks. -/
import Derived.Test.YtoondnobojakfaaClkD
import Derived.Maps.OwnOps
import Derived.Maps.OwnSet
import Derived.Maps.AppendAt
namespace Go.Proofs.Ytoondnobojakfaa
open Go.ChangeShapes Go.WideShapes Go.ChangeAt Go.RowKit Go.Maps

theorem law_int : Keyed Try.prog 3 := int_keyed Try.underlying3
theorem zero_int (w : World) : (zeroValue 3).run Try.prog w = .ok (.int .i64 0) w := by kernel_rfl
def li (n : Int) : DataW Unit := .lit (.int .i64 n)
def other : DataW Unit := ((((DataW.map []).put (.int .i64 0) (li 0)).put (.int .i64 1) (li 2)).put (.int .i64 2) (li 1)).put (.int .i64 3) (li 3)
/-- The map of the law: four entries in a block of its own. -/
structure Filled (w w' : World) (b : Nat) : Prop where
  own : w'.ownsMap Try.prog 3 (plainElem (H := Unit) Try.prog 3) b 4 other
  grown : w.grownBy w' (some b)
theorem Filled.below {w w' w'' : World} {b : Nat} (h : Filled w w' b) (k : Below w'.heap.size w' w'') (hb : b < w'.heap.size) : w''.ownsMap Try.prog 3 (plainElem (H := Unit) Try.prog 3) b 4 other := by
  obtain ⟨es, clock, h1, h2, h3, h4⟩ := h.own
  exact ⟨es, clock, by rw [k.block b hb]; exact h1, h2, h3, h4⟩
theorem fill (w : World) : ∃ w1 w2 w3 w4 : World,
    (Instr.mapUpdate 28 (.map (some w.heap.size)) (.int .i64 0) (.int .i64 0)).run Try.prog (w.alloc (.map #[] 0)) = .ok () w1 ∧
    (Instr.mapUpdate 28 (.map (some w.heap.size)) (.int .i64 1) (.int .i64 2)).run Try.prog w1 = .ok () w2 ∧
    (Instr.mapUpdate 28 (.map (some w.heap.size)) (.int .i64 2) (.int .i64 1)).run Try.prog w2 = .ok () w3 ∧
    (Instr.mapUpdate 28 (.map (some w.heap.size)) (.int .i64 3) (.int .i64 3)).run Try.prog w3 = .ok () w4 ∧ Filled (w.alloc (.map #[] 0)) w4 w.heap.size := by
  have h0 := World.ownsMap_made (H := Unit) w Try.prog 3 (plainElem (H := Unit) Try.prog 3)
  obtain ⟨w1, r1, h1, g1⟩ := h0.update law_int Try.underlying28 (by decide) (key := .int .i64 0) (keyOf_int_mk Try.underlying3 (by decide)) (plainElem_int (q := .i64) (a := 0) Try.underlying3 (by decide))
  obtain ⟨w2, r2, h2, g2⟩ := h1.update law_int Try.underlying28 (by decide) (key := .int .i64 1) (keyOf_int_mk Try.underlying3 (by decide)) (plainElem_int (q := .i64) (a := 2) Try.underlying3 (by decide))
  obtain ⟨w3, r3, h3, g3⟩ := h2.update law_int Try.underlying28 (by decide) (key := .int .i64 2) (keyOf_int_mk Try.underlying3 (by decide)) (plainElem_int (q := .i64) (a := 1) Try.underlying3 (by decide))
  obtain ⟨w4, r4, h4, g4⟩ := h3.update law_int Try.underlying28 (by decide) (key := .int .i64 3) (keyOf_int_mk Try.underlying3 (by decide)) (plainElem_int (q := .i64) (a := 3) Try.underlying3 (by decide))
  exact ⟨w1, w2, w3, w4, r1, r2, r3, r4, h4, ((g1.trans g2).trans g3).trans g4⟩

theorem sides_ways (f g : Nat → Int) : (ccmp f g = 0 ∧ ccmp g f = 0 ∧ ceq f g = true) ∨ (ccmp f g = 1 ∧ ccmp g f = 2 ∧ ceq f g = false) ∨ (ccmp f g = 2 ∧ ccmp g f = 1 ∧ ceq f g = false) ∨ (ccmp f g = 3 ∧ ccmp g f = 3 ∧ ceq f g = false) := by
  have hs : ceq g f = ceq f g := by rw [Bool.eq_iff_iff, ceq_iff, ceq_iff]; exact ⟨fun h i hi => (h i hi).symm, fun h i hi => (h i hi).symm⟩
  have ha : cle f g = true → cle g f = true → ceq f g = true := fun h k => ceq_iff.2 fun i hi => Int.le_antisymm (cle_iff.1 h i hi) (cle_iff.1 k i hi)
  unfold ccmp
  rw [hs]
  cases e0 : ceq f g <;> cases e1 : cle f g <;> cases e2 : cle g f <;> simp_all

set_option maxHeartbeats 1000000 in
theorem clockSides_walk (f g : Nat → Int) (w : World) (_ : ∀ i, i < 6 → I64 (f i)) (_ : ∀ i, i < 6 → I64 (g i)) :
    Calls Try.prog 4 #[clkV f, clkV g] w fun e w' => e = .returned (.bool true) ∧ Below w.heap.size w w' := by
  have heq := eql_clk f g
  have hmm := @run_makeMap Try.prog
  go_enter Try.func4, Try.ntmps4
  go_wp2
  have h0 : Has ((w.alloc (.cells (clkC f) 23)).alloc (.cells (clkC g) 23)) w.heap.size (clkC f) 23 := (Has.new _ _ _).alloc _
  have h1 : Has ((w.alloc (.cells (clkC f) 23)).alloc (.cells (clkC g) 23)) (w.heap.size + 1) (clkC g) 23 := (Has.new (w.alloc _) _ _).at (by simp)
  have hb : Below w.heap.size w ((w.alloc (.cells (clkC f) 23)).alloc (.cells (clkC g) 23)) := ((Below.refl _ _).alloc (by simp) _).alloc (by simp) _
  generalize (w.alloc (.cells (clkC f) 23)).alloc (.cells (clkC g) 23) = w1 at *
  replace h0 := h0.drew
  replace h1 := h1.drew
  replace hb := hb.drew
  go_region_held3 (fun W => (Has W w.heap.size (clkC f) 23 ∧ Has W (w.heap.size + 1) (clkC g) 23 ∧ Below w.heap.size w W) ∧ BoxAt W w.heap.size f ∧ BoxAt W (w.heap.size + 1) g) (first | exact ⟨⟨h0, h1, hb⟩, h0.clk, h1.clk⟩)
    (first
      | (go_at_call 11; refine (compare_any _ _ _).mono ?_; rintro e w' ⟨rfl, hk⟩; replace hb := hb.trans (hk.mono hb.size); replace h0 := h0.below hk h0.lt; replace h1 := h1.below hk h1.lt; clear hk))
  rename_i hS
  obtain ⟨⟨h0, h1, hb⟩, B0, B1⟩ := hS
  rcases sides_ways f g with ⟨e1, e2, e3⟩ | ⟨e1, e2, e3⟩ | ⟨e1, e2, e3⟩ | ⟨e1, e2, e3⟩
  all_goals
    rw [e1, e2]
    clear e1 e2
    obtain ⟨x1, x2, x3, x4, r1, r2, r3, r4, hF⟩ := fill w'
    have hb4 : Below w.heap.size w x4 := (hb.alloc hb.size _).grown hF.grown (by simp; have := hb.size; omega) (by intro k hk; cases hk; exact hb.size)
    go_wp2_with fail
    have h0' := (h0.alloc (.map #[] 0)).grown hF.grown (by have := h0.lt; intro e; have := Option.some.inj e; omega)
    have h1' := (h1.alloc (.map #[] 0)).grown hF.grown (by have := h1.lt; intro e; have := Option.some.inj e; omega)
    have hz : w'.heap.size < x4.heap.size := by have := hF.grown.size; simp at this; omega
    refine (clocked_any _).mono ?_
    rintro e x5 ⟨rfl, hk⟩
    replace h0 := h0'.below hk h0'.lt
    replace h1 := h1'.below hk h1'.lt
    replace hb := hb4.trans (hk.mono hb4.size)
    have hO := hF.below hk hz
    clear hk h0' h1' hF r1 r2 r3 r4 hb4 B0 B1
    have B0 := h0.clk
    have B1 := h1.clk
  · obtain ⟨c, hrun, hat, _⟩ := hO.lookup_int law_int Try.underlying28 Try.underlying3 (zero_int _) (key := .int .i64 0) (keyOf_int_mk Try.underlying3 (by decide))
    obtain rfl : c = 0 := by
      have : other.atKey (.int .i64 0) (li 0) = li 0 := by rfl
      rw [show (DataW.lit (Lit.int .i64 0) : DataW Unit) = li 0 from rfl, this] at hat
      simpa [li] using hat.symm
    go_wp2
    go_ret
    exact ⟨rfl, hb⟩
  · obtain ⟨c, hrun, hat, _⟩ := hO.lookup_int law_int Try.underlying28 Try.underlying3 (zero_int _) (key := .int .i64 1) (keyOf_int_mk Try.underlying3 (by decide))
    obtain rfl : c = 2 := by
      have : other.atKey (.int .i64 1) (li 0) = li 2 := by rfl
      rw [show (DataW.lit (Lit.int .i64 0) : DataW Unit) = li 0 from rfl, this] at hat
      simpa [li] using hat.symm
    go_wp2
    go_ret
    exact ⟨rfl, hb⟩
  · obtain ⟨c, hrun, hat, _⟩ := hO.lookup_int law_int Try.underlying28 Try.underlying3 (zero_int _) (key := .int .i64 2) (keyOf_int_mk Try.underlying3 (by decide))
    obtain rfl : c = 1 := by
      have : other.atKey (.int .i64 2) (li 0) = li 1 := by rfl
      rw [show (DataW.lit (Lit.int .i64 0) : DataW Unit) = li 0 from rfl, this] at hat
      simpa [li] using hat.symm
    go_wp2
    go_ret
    exact ⟨rfl, hb⟩
  · obtain ⟨c, hrun, hat, _⟩ := hO.lookup_int law_int Try.underlying28 Try.underlying3 (zero_int _) (key := .int .i64 3) (keyOf_int_mk Try.underlying3 (by decide))
    obtain rfl : c = 3 := by
      have : other.atKey (.int .i64 3) (li 0) = li 3 := by rfl
      rw [show (DataW.lit (Lit.int .i64 0) : DataW Unit) = li 0 from rfl, this] at hat
      simpa [li] using hat.symm
    go_wp2
    go_ret
    exact ⟨rfl, hb⟩
/-! The frame of the law ClockSides, by program. -/
set_option maxRecDepth 100000 in
theorem clockSides_lifted (os : Os) (started : os.Started) (H : Type) (enc : TypeId × Value → H) :
    ReturnsInHanded {} Try.checked os 4 .any (Rows.clockSidesSpec.pre6 enc Try.prog Try.f4 Rows.clockSidesRow.domain false) (Rows.clockSidesSpec.post enc Try.prog Try.f4 false true false false) := by
  refine returnsInHanded_of_change (C := Try.checked) frame_own started (by kernel_rfl) Try.func4
    (ChangeSpec.witness6 (enc := enc) (C := Try.checked) false ⟨#[], #[.agg #[.int .i64 0, .int .i64 0, .int .i64 0, .int .i64 0, .int .i64 0, .int .i64 0], .agg #[.int .i64 0, .int .i64 0, .int .i64 0, .int .i64 0, .int .i64 0, .int .i64 0]], []⟩ 8 (by kernel_rfl) (by kernel_rfl) (by kernel_rfl) (by kernel_rfl)) ?_
  intro W base args ds gs before hval0 hW hcnd hroom
  clear hcnd
  have hval : ∀ (j : Nat) t v, Try.f4.params[j]? = some t → args[j]? = some v → Value.okWide Try.prog W .any base t v := hval0
  have hW' := hW
  obtain ⟨p, q, hA0, hV, rfl, hfz, hnd⟩ := hW
  have hA : DataW.TrodAll enc Try.prog W 0 (fun _ => true) true Try.f4.params.toList args.toList ds p := hA0
  rw [Try.params4] at hA hval
  obtain ⟨v0, vs0, d0, ds0, p0, q0, hargs, rfl, rfl, h0, r0⟩ := trodAll_cons hA
  obtain ⟨v1, vs1, d1, ds1, p1, q1, rfl, rfl, rfl, h1, r1⟩ := trodAll_cons r0
  obtain ⟨rfl, rfl, rfl⟩ := trodAll_nil r1
  obtain rfl : args = #[v0, v1] := by cases args; simp_all
  obtain ⟨rfl, rfl⟩ := trodVars_none hV
  have k0 := h0
  have lt0 : ∀ x ∈ p0, x.block < W.heap.size := by obtain ⟨m, hm⟩ := k0; exact DataW.trod_lt m _ _ _ hm
  obtain ⟨a0, rfl, w0⟩ := open_clk Try.underlying23 Try.underlying3 clk_cells (by kernel_rfl) (hval 0 23 v0 rfl rfl) h0
  have k1 := h1
  have lt1 : ∀ x ∈ p1, x.block < W.heap.size := by obtain ⟨m, hm⟩ := k1; exact DataW.trod_lt m _ _ _ hm
  obtain ⟨a1, rfl, w1⟩ := open_clk Try.underlying23 Try.underlying3 clk_cells (by kernel_rfl) (hval 1 23 v1 rfl rfl) h1
  clear hA0 hval0
  refine (clockSides_walk a0 a1 W w0 w1).mono fun e W' ⟨he, bel⟩ => ?_
  subst he
  exact ⟨_, rfl, _, _, _, [], _, [], hW', trodAll_mk1 (shut_bool Try.underlying4 _), (trodAll_cons_mk (Below.trod frame_laid (by kernel_rfl) (of_decide_eq_true (by kernel_rfl)) k0 bel lt0) (trodAll_cons_mk (Below.trod frame_laid (by kernel_rfl) (of_decide_eq_true (by kernel_rfl)) k1 bel lt1) trodAll_mk0)), rfl, bel.frame _, fun h => by cases h⟩

theorem clockSides_over : Rows.clockSidesRow.holds Try.pinned (OpenSpec.ofChange Rows.clockSidesSpec) :=
  OpenClaim.holds_of_wide 4 Try.f4 rfl rfl rfl rfl rfl rfl rfl ⟨rfl, rfl, rfl, rfl, rfl⟩ rfl rfl rfl rfl rfl (by kernel_rfl) Try.func4 (by kernel_rfl)
    (of_decide_eq_true (by kernel_rfl)) (by unfold Func.isWrapper; first | (rw [if_pos (by decide +kernel)]; kernel_rfl) | (rw [if_neg (by decide +kernel)]; exact ⟨rfl, rfl⟩))
    (fun os started H enc _ => clockSides_lifted os started H enc)

/-- The statement. -/
theorem clockSides_holds : Rows.ClockSidesSaid := clockSides_over

end Go.Proofs.Ytoondnobojakfaa
