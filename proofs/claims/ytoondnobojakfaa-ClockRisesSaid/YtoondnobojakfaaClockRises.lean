/- ClockRises: a tick is one more at one place and no other, for every clock and every number of a thread. -/
import Derived.Test.YtoondnobojakfaaClkD
import Derived.IntWalk
namespace Go.Proofs.Ytoondnobojakfaa
open Go.ChangeShapes Go.WideShapes Go.ChangeAt Go.RowKit

theorem ccmp_cup (f : Nat → Int) (k : Nat) (hk : k < 6) : ccmp f (cup f k 1) = 1 := by
  have h1 : ceq f (cup f k 1) = false := by
    rw [Bool.eq_false_iff]
    intro h
    have := ceq_iff.1 h k hk
    simp [cup] at this
    omega
  have h2 : cle f (cup f k 1) = true := cle_iff.2 fun i _ => by simp only [cup]; split <;> omega
  simp [ccmp, h1, h2]
theorem eql_zero (w : World) : (binOp .eql 23 (clkV fun _ => 0) (clkV fun _ => 0)).run Try.prog w = .ok (.bool true) w := by
  rw [eql_clk]; rfl
theorem eql_self (f g : Nat → Int) (h : ∀ i, i < 6 → f i = g i) (w : World) : (binOp .eql 23 (clkV f) (clkV g)).run Try.prog w = .ok (.bool true) w := by
  rw [eql_clk, ceq_iff.2 h]

set_option maxHeartbeats 1000000 in
theorem rises_err (f : Nat → Int) (t : Int) (e : Int) (w : World) (he : (e == 0) = false) (ht : ∀ W, Calls Try.prog 16 #[clkV f, .int .i64 t] W fun r w' => r = .returned (.tuple #[clkV fun _ => 0, .int .i64 e]) ∧ Below W.heap.size W w') :
    Calls Try.prog 7 #[clkV f, .int .i64 t] w fun e w' => e = .returned (.bool true) ∧ Below w.heap.size w w' := by
  have hz := eql_zero
  have HT := Lib.hid ht
  clear ht
  have he' : (e != 0) = true := by simpa using he
  go_enter Try.func7, Try.ntmps7
  go_wp2_with fail
  have h0 := Has.new w (clkC f) 23
  have hb : Below w.heap.size w (w.alloc (.cells (clkC f) 23)) := (Below.refl _ _).alloc (by simp) _
  generalize w.alloc (.cells (clkC f) 23) = w1 at *
  refine (clocked_any _).mono ?_
  rintro e w2 ⟨rfl, hk⟩
  replace h0 := h0.below hk h0.lt
  replace hb := hb.trans (hk.mono hb.size)
  clear hk
  have B0 := h0.clk
  go_wp2_with fail
  refine (HT.out _).mono ?_
  rintro e w3 ⟨rfl, hk⟩
  replace h0 := h0.below hk h0.lt
  replace hb := hb.trans (hk.mono hb.size)
  clear hk B0 HT
  go_wp2
  go_ret
  exact ⟨rfl, (((((((hb.alloc hb.size _)))))))⟩
set_option maxHeartbeats 1000000 in
theorem rises_ok (f : Nat → Int) (k : Nat) (w : World) (hk6 : k < 6) (hl : f k < 1000000) (hm : -9223372036854775808 ≤ f k) :
    Calls Try.prog 7 #[clkV f, .int .i64 k] w fun e w' => e = .returned (.bool true) ∧ Below w.heap.size w w' := by
  have hcmp := ccmp_cup f k hk6
  have hq := eql_self (fun i => if i = k then f k else cup f k 1 i) f (fun i _ => by simp only [cup]; split <;> simp_all)
  go_enter Try.func7, Try.ntmps7
  go_wp2_with fail
  have h0 := Has.new w (clkC f) 23
  have hb : Below w.heap.size w (w.alloc (.cells (clkC f) 23)) := (Below.refl _ _).alloc (by simp) _
  generalize w.alloc (.cells (clkC f) 23) = w1 at *
  refine (clocked_any _).mono ?_
  rintro e w2 ⟨rfl, hk⟩
  replace h0 := h0.below hk h0.lt
  replace hb := hb.trans (hk.mono hb.size)
  clear hk
  have B0 := h0.clk
  go_wp2_with fail
  refine (tick_ok f k _ hk6 hl hm).mono ?_
  rintro e w3 ⟨rfl, hk⟩
  replace h0 := h0.below hk h0.lt
  replace hb := hb.trans (hk.mono hb.size)
  clear hk B0
  have B0 := h0.clk
  have hn := Has.new w3 (clkC (cup f k 1)) 23
  have g0 := h0.alloc (.cells (clkC (cup f k 1)) 23)
  have gb := hb.alloc hb.size (.cells (clkC (cup f k 1)) 23)
  have hlt := h0.lt
  go_wp2_with fail
  generalize hW : w3.alloc (.cells (clkC (cup f k 1)) 23) = w4 at *
  clear hW B0
  have hc : cup f k 1 k = f k + 1 := by simp [cup]
  generalize w3.heap.size = N at *
  have hw := IntWalk.i64_in (f k + 1) (by omega)
  have e0 : (0 : Int) ≤ k := by omega
  have e6 : (k : Int) < 6 := by omega
  go_region_held3 (fun W => (Has W w.heap.size (clkC f) 23 ∧ Has W N (clkC (cup f k 1)) 23 ∧ Below w.heap.size w W) ∧ BoxAt W w.heap.size f ∧ BoxAt W N (cup f k 1) ∧ W.cell? ⟨w.heap.size, k, none⟩ = some (.int .i64 (f k)) ∧ W.cell? ⟨N, k, none⟩ = some (.int .i64 (f k + 1)))
    (first | exact ⟨⟨g0.drew, hn.drew, gb.drew⟩, g0.clk, hn.clk, g0.cell (clkC_get _ k hk6), hc ▸ hn.cell (clkC_get _ k hk6)⟩ | (have j0 := g0.drew.below hq2 g0.lt; have j1 := hn.drew.below hq2 hn.lt; exact ⟨⟨j0, j1, gb.drew.trans (hq2.mono gb.size)⟩, j0.clk, j1.clk, j0.cell (clkC_get _ k hk6), hc ▸ j1.cell (clkC_get _ k hk6)⟩))
    (first | (go_at_call 11; refine (compare_any f (cup f k 1) _).mono ?_; rintro e w' ⟨rfl, hq2⟩))
  rename_i hS
  obtain ⟨⟨j0, j1, jb⟩, B0, B1, c0, c1⟩ := hS
  have k1 := (j1.setCell k (.int .i64 (f k))).to ((clkC_set _ k hk6 (f k)))
  have k0 := j0.setCell_ne (a := ⟨N, k, none⟩) (show w.heap.size ≠ N by omega) (.int .i64 (f k))
  have kb := jb.setCell (p := ⟨N, k, none⟩) (show w.heap.size ≤ N by omega) (.int .i64 (f k))
  have K0 := k0.clk
  have K1 := k1.clk
  have fr := j1.free k
  clear hw
  go_wp2
  all_goals
    go_ret
    exact ⟨rfl, kb⟩

theorem clockRises_walk (f : Nat → Int) (t : Int) (w : World) (hf : ∀ i, i < 6 → I64 (f i)) (_ : I64 t) :
    Calls Try.prog 7 #[clkV f, .int .i64 t] w fun e w' => e = .returned (.bool true) ∧ Below w.heap.size w w' := by
  by_cases h : 0 ≤ t ∧ t < 6
  · obtain ⟨k, rfl⟩ := Int.eq_ofNat_of_zero_le h.1
    have hk : k < 6 := by omega
    by_cases h1 : f k < 1000000
    · exact rises_ok f k w hk h1 (hf k hk).1
    · exact rises_err f k 2 w (by decide) fun W => tick_large f k W hk (by omega)
  · exact rises_err f t 1 w (by decide) fun W => tick_bad f t W (by omega)
/-! The frame of the law ClockRises, by program. -/
set_option maxRecDepth 100000 in
theorem clockRises_lifted (os : Os) (started : os.Started) (H : Type) (enc : TypeId × Value → H) :
    ReturnsInHanded {} Try.checked os 7 .any (Rows.clockRisesSpec.pre6 enc Try.prog Try.f7 Rows.clockRisesRow.domain false) (Rows.clockRisesSpec.post enc Try.prog Try.f7 false true false false) := by
  refine returnsInHanded_of_change (C := Try.checked) frame_own started (by kernel_rfl) Try.func7
    (ChangeSpec.witness6 (enc := enc) (C := Try.checked) false ⟨#[], #[.agg #[.int .i64 0, .int .i64 0, .int .i64 0, .int .i64 0, .int .i64 0, .int .i64 0], .int .i64 0], []⟩ 8 (by kernel_rfl) (by kernel_rfl) (by kernel_rfl) (by kernel_rfl)) ?_
  intro W base args ds gs before hval0 hW hcnd hroom
  clear hcnd
  have hval : ∀ (j : Nat) t v, Try.f7.params[j]? = some t → args[j]? = some v → Value.okWide Try.prog W .any base t v := hval0
  have hW' := hW
  obtain ⟨p, q, hA0, hV, rfl, hfz, hnd⟩ := hW
  have hA : DataW.TrodAll enc Try.prog W 0 (fun _ => true) true Try.f7.params.toList args.toList ds p := hA0
  rw [Try.params7] at hA hval
  obtain ⟨v0, vs0, d0, ds0, p0, q0, hargs, rfl, rfl, h0, r0⟩ := trodAll_cons hA
  obtain ⟨v1, vs1, d1, ds1, p1, q1, rfl, rfl, rfl, h1, r1⟩ := trodAll_cons r0
  obtain ⟨rfl, rfl, rfl⟩ := trodAll_nil r1
  obtain rfl : args = #[v0, v1] := by cases args; simp_all
  obtain ⟨rfl, rfl⟩ := trodVars_none hV
  have k0 := h0
  have lt0 : ∀ x ∈ p0, x.block < W.heap.size := by obtain ⟨m, hm⟩ := k0; exact DataW.trod_lt m _ _ _ hm
  obtain ⟨a0, rfl, w0⟩ := open_clk Try.underlying23 Try.underlying3 clk_cells (by kernel_rfl) (hval 0 23 v0 rfl rfl) h0
  have k1 := h1
  have lt1 : ∀ x ∈ p1, x.block < W.heap.size := by obtain ⟨m, hm⟩ := k1; exact DataW.trod_lt m _ _ _ hm
  obtain ⟨a1, rfl, rfl, rfl, w1⟩ := open_int Try.underlying3 (hval 1 3 v1 rfl rfl) h1
  clear hA0 hval0
  refine (clockRises_walk a0 a1 W w0 (wf_i64 w1)).mono fun e W' ⟨he, bel⟩ => ?_
  subst he
  exact ⟨_, rfl, _, _, _, [], _, [], hW', trodAll_mk1 (shut_bool Try.underlying4 _), (trodAll_cons_mk (Below.trod frame_laid (by kernel_rfl) (of_decide_eq_true (by kernel_rfl)) k0 bel lt0) (trodAll_cons_mk (Below.trod frame_laid (by kernel_rfl) (of_decide_eq_true (by kernel_rfl)) k1 bel lt1) trodAll_mk0)), rfl, bel.frame _, fun h => by cases h⟩

theorem clockRises_over : Rows.clockRisesRow.holds Try.pinned (OpenSpec.ofChange Rows.clockRisesSpec) :=
  OpenClaim.holds_of_wide 7 Try.f7 rfl rfl rfl rfl rfl rfl rfl ⟨rfl, rfl, rfl, rfl, rfl⟩ rfl rfl rfl rfl rfl (by kernel_rfl) Try.func7 (by kernel_rfl)
    (of_decide_eq_true (by kernel_rfl)) (by unfold Func.isWrapper; first | (rw [if_pos (by decide +kernel)]; kernel_rfl) | (rw [if_neg (by decide +kernel)]; exact ⟨rfl, rfl⟩))
    (fun os started H enc _ => clockRises_lifted os started H enc)

/-- The statement. -/
theorem clockRises_holds : Rows.ClockRisesSaid := clockRises_over

end Go.Proofs.Ytoondnobojakfaa
