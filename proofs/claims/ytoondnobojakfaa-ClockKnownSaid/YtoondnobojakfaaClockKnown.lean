/- ClockKnown: a clock is within another one exactly if the other one has seen all its epochs, for every two clocks. -/
import Derived.Test.YtoondnobojakfaaClkD
namespace Go.Proofs.Ytoondnobojakfaa
open Go.ChangeShapes Go.WideShapes Go.ChangeAt Go.RowKit

/-- The first k epochs are seen. -/
def kn (f g : Nat → Int) (k : Nat) : Bool := decide (∀ i, i < k → f i ≤ g i)
theorem kn_zero (f g : Nat → Int) : kn f g 0 = true := by simp [kn]
theorem kn_six (f g : Nat → Int) : kn f g 6 = cle f g := by rw [Bool.eq_iff_iff, cle_iff]; simp [kn]
theorem kn_yes (f g : Nat → Int) (k : Nat) (h : kn f g k = true) : kn f g (k + 1) = decide (f k ≤ g k) := by
  rw [Bool.eq_iff_iff]
  simp only [kn, decide_eq_true_eq] at *
  exact ⟨fun h => h k (by omega), fun h1 i hi => by
    by_cases e : i = k
    · subst e; exact h1
    · exact h i (by omega)⟩
theorem kn_no (f g : Nat → Int) (k : Nat) (h : kn f g k = false) : kn f g (k + 1) = false := by
  simp only [kn, decide_eq_false_iff_not] at *
  exact fun hh => h fun i hi => hh i (by omega)

set_option maxHeartbeats 1000000 in
theorem clockKnown_walk (f g : Nat → Int) (w : World) (_ : ∀ i, i < 6 → I64 (f i)) (_ : ∀ i, i < 6 → I64 (g i)) :
    Calls Try.prog 6 #[clkV f, clkV g] w fun e w' => e = .returned (.bool true) ∧ Below w.heap.size w w' := by
  go_enter Try.func6, Try.ntmps6
  go_wp2_with fail
  have h0 := (Has.new w (clkC f) 23).alloc (.cells (clkC g) 23)
  have h1 := (Has.new (w.alloc (.cells (clkC f) 23)) (clkC g) 23).at (c := w.heap.size + 1) (by simp)
  have hb : Below w.heap.size w ((w.alloc (.cells (clkC f) 23)).alloc (.cells (clkC g) 23)) := ((Below.refl _ _).alloc (by simp) _).alloc (by simp) _
  generalize (w.alloc (.cells (clkC f) 23)).alloc (.cells (clkC g) 23) = w1 at *
  refine (clocked_any _).mono ?_
  rintro e w2 ⟨rfl, hk⟩
  replace h0 := h0.below hk h0.lt
  replace h1 := h1.below hk h1.lt
  replace hb := hb.trans (hk.mono hb.size)
  clear hk
  go_wp2
  go_loopw [5, 11] (fun a i wr => ∃ k : Nat, k ≤ 6 ∧ i = .int .i64 k ∧ a = .bool (kn f g k) ∧ Has wr w.heap.size (clkC f) 23 ∧ Has wr (w.heap.size + 1) (clkC g) 23 ∧ Below w.heap.size w wr) (fun _ i _ => 6 - (intOf i).toNat)
  case atStart => exact ⟨0, by omega, rfl, by rw [kn_zero], h0, h1, hb⟩
  case round =>
    clear h0 h1 hb
    obtain ⟨k, hk, rfl, rfl, h0, h1, hb⟩ := hrel
    have B0 := h0.clk
    have B1 := h1.clk
    by_cases hlt : k < 6
    · cases hkn : kn f g k
      all_goals
        go_wp2_with fail
        refine (of_ok f k _ hlt).mono ?_
        rintro e w3 ⟨rfl, hq⟩
        have j0 := (h0.below hq h0.lt).alloc (.cells #[.int .i64 k, .int .i64 (f k)] 31)
        have j1 := (h1.below hq h1.lt).alloc (.cells #[.int .i64 k, .int .i64 (f k)] 31)
        have jb := (hb.trans (hq.mono hb.size)).alloc (Nat.le_trans hb.size hq.size) (.cells #[.int .i64 k, .int .i64 (f k)] 31)
        clear hq B0 B1 h0 h1 hb
        have B1 := j1.clk
      · have hn := kn_no f g k hkn
        go_wp2
        go_roundw
        case rel => exact ⟨k + 1, by omega, by go_num, by rw [hn], j0, j1, jb⟩
        case measure => simp [intOf]; omega
      · have hn := kn_yes f g k hkn
        go_wp2_with fail
        refine (seen_ok (f k) g k _ hlt).mono ?_
        rintro e w4 ⟨rfl, hq⟩
        replace j0 := j0.below hq j0.lt
        replace j1 := j1.below hq j1.lt
        replace jb := jb.trans (hq.mono jb.size)
        clear hq B1
        go_wp2
        go_roundw
        case rel => exact ⟨k + 1, by omega, by go_num, by rw [hn], j0, j1, jb⟩
        case measure => simp [intOf]; omega
    · obtain rfl : k = 6 := by omega
      rw [kn_six]
      go_wp2_with fail
      refine (within_any f g _).mono ?_
      rintro e w3 ⟨rfl, hq⟩
      go_wp2
      go_ret
      exact ⟨ret_bool (by simp), hb.trans (hq.mono hb.size)⟩
/-! The frame of the law ClockKnown, by program. -/
set_option maxRecDepth 100000 in
theorem clockKnown_lifted (os : Os) (started : os.Started) (H : Type) (enc : TypeId × Value → H) :
    ReturnsInHanded {} Try.checked os 6 .any (Rows.clockKnownSpec.pre6 enc Try.prog Try.f6 Rows.clockKnownRow.domain false) (Rows.clockKnownSpec.post enc Try.prog Try.f6 false true false false) := by
  refine returnsInHanded_of_change (C := Try.checked) frame_own started (by kernel_rfl) Try.func6
    (ChangeSpec.witness6 (enc := enc) (C := Try.checked) false ⟨#[], #[.agg #[.int .i64 0, .int .i64 0, .int .i64 0, .int .i64 0, .int .i64 0, .int .i64 0], .agg #[.int .i64 0, .int .i64 0, .int .i64 0, .int .i64 0, .int .i64 0, .int .i64 0]], []⟩ 8 (by kernel_rfl) (by kernel_rfl) (by kernel_rfl) (by kernel_rfl)) ?_
  intro W base args ds gs before hval0 hW hcnd hroom
  clear hcnd
  have hval : ∀ (j : Nat) t v, Try.f6.params[j]? = some t → args[j]? = some v → Value.okWide Try.prog W .any base t v := hval0
  have hW' := hW
  obtain ⟨p, q, hA0, hV, rfl, hfz, hnd⟩ := hW
  have hA : DataW.TrodAll enc Try.prog W 0 (fun _ => true) true Try.f6.params.toList args.toList ds p := hA0
  rw [Try.params6] at hA hval
  obtain ⟨v0, vs0, d0, ds0, p0, q0, hargs, rfl, rfl, h0, r0⟩ := trodAll_cons hA
  obtain ⟨v1, vs1, d1, ds1, p1, q1, rfl, rfl, rfl, h1, r1⟩ := trodAll_cons r0
  obtain ⟨rfl, rfl, rfl⟩ := trodAll_nil r1
  obtain rfl : args = #[v0, v1] := by cases args; simp_all
  obtain ⟨rfl, rfl⟩ := trodVars_none hV
  have k0 := h0
  have lt0 : ∀ x ∈ p0, x.block < W.heap.size := by obtain ⟨m, hm⟩ := k0; exact DataW.trod_lt m _ _ _ hm
  obtain ⟨a0, rfl, w0⟩ := open_clk Try.underlying23 Try.underlying3 clk_cells (by kernel_rfl) (hval 0 23 v0 rfl rfl) h0
  have k1 := h1
  have lt1 : ∀ x ∈ p1, x.block < W.heap.size := by obtain ⟨m, hm⟩ := k1; exact DataW.trod_lt m _ _ _ hm
  obtain ⟨a1, rfl, w1⟩ := open_clk Try.underlying23 Try.underlying3 clk_cells (by kernel_rfl) (hval 1 23 v1 rfl rfl) h1
  clear hA0 hval0
  refine (clockKnown_walk a0 a1 W w0 w1).mono fun e W' ⟨he, bel⟩ => ?_
  subst he
  exact ⟨_, rfl, _, _, _, [], _, [], hW', trodAll_mk1 (shut_bool Try.underlying4 _), (trodAll_cons_mk (Below.trod frame_laid (by kernel_rfl) (of_decide_eq_true (by kernel_rfl)) k0 bel lt0) (trodAll_cons_mk (Below.trod frame_laid (by kernel_rfl) (of_decide_eq_true (by kernel_rfl)) k1 bel lt1) trodAll_mk0)), rfl, bel.frame _, fun h => by cases h⟩

theorem clockKnown_over : Rows.clockKnownRow.holds Try.pinned (OpenSpec.ofChange Rows.clockKnownSpec) :=
  OpenClaim.holds_of_wide 6 Try.f6 rfl rfl rfl rfl rfl rfl rfl ⟨rfl, rfl, rfl, rfl, rfl⟩ rfl rfl rfl rfl rfl (by kernel_rfl) Try.func6 (by kernel_rfl)
    (of_decide_eq_true (by kernel_rfl)) (by unfold Func.isWrapper; first | (rw [if_pos (by decide +kernel)]; kernel_rfl) | (rw [if_neg (by decide +kernel)]; exact ⟨rfl, rfl⟩))
    (fun os started H enc _ => clockKnown_lifted os started H enc)

/-- The statement. -/
theorem clockKnown_holds : Rows.ClockKnownSaid := clockKnown_over

end Go.Proofs.Ytoondnobojakfaa
