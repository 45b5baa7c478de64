/- FullSeen: exactly the threads that have read or written a variable have a number in its clock: for every trace and variable. -/
import Derived.Test.YtgliichceildgaaRows
import Derived.Test.YtgliichceildgaaDet
import Derived.Test.YtgliichceildgaaFrm
import Derived.Test.YtgliichceildgaaRest
import Derived.Test.YtgliichceildgaaOpenE
namespace Go.Proofs.Ytgliichceildgaa
open Go.ChangeShapes Go.WideShapes Go.ChangeAt Go.RowKit

/-- Is there one among the first m events? -/
def seenB (l : List Ev) (K : Int) (x t m : Nat) : Bool := (List.range m).any fun i => decide ((evAt l i).k = K ∧ (evAt l i).o = x ∧ (evAt l i).t = t)
theorem seenB_succ (l : List Ev) (K : Int) (x t m : Nat) : seenB l K x t (m + 1) = (seenB l K x t m || decide ((evAt l m).k = K ∧ (evAt l m).o = x ∧ (evAt l m).t = t)) := by
  simp [seenB, List.range_succ]
theorem seenB_iff {l : List Ev} {K : Int} {x t m : Nat} : seenB l K x t m = true ↔ ∃ i, i < m ∧ (evAt l i).k = K ∧ (evAt l i).o = x ∧ (evAt l i).t = t := by
  simp [seenB]
theorem seen_rd {l : List Ev} (h : (played l).2.2 = 0) (x t : Nat) : decide (rdAt l l.length x t > 0) = seenB l 1 x t l.length := by
  rw [Bool.eq_iff_iff, decide_eq_true_iff, seenB_iff]
  exact (rdAt_pos h x t l.length (Nat.le_refl _)).2
theorem seen_wr {l : List Ev} (h : (played l).2.2 = 0) (x t : Nat) : decide (wrAt l l.length x t > 0) = seenB l 2 x t l.length := by
  rw [Bool.eq_iff_iff, decide_eq_true_iff, seenB_iff]
  exact (wrAt_pos h x t l.length (Nat.le_refl _)).2
theorem zero_eql (w : World) : (binOp .eql 49 (.agg #[.int .i64 0, .int .i64 0, .int .i64 0, .int .i64 0, .int .i64 0, .int .i64 0]) (.agg #[.int .i64 0, .int .i64 0, .int .i64 0, .int .i64 0, .int .i64 0, .int .i64 0])).run Try.prog w = .ok (.bool true) w := by
  have := eql_clk (fun _ => 0) (fun _ => 0) w
  rwa [show ceq (fun _ => 0) (fun _ => 0) = true by decide +kernel] at this

set_option maxRecDepth 100000 in
theorem fullSeen_no (a : Option Addr) (z : List Ev) (c : Nat) (n : Int) (w : World) (h : EvS w a z) (he : (played z).2.2 ≠ 0) :
    Calls Try.prog 8 #[.slice a z.length c, .int .i64 n] w fun e w' => e = .returned (.bool true) ∧ Below w.heap.size w w' := by
  have e2 : ((played z).2.2 != 0) = true := by simpa using he
  have hze := zero_eql
  go_enter Try.func8, Try.ntmps8
  go_wp2_with fail
  refine (detected_any _).mono ?_
  rintro r w1 ⟨rfl, hb⟩
  go_wp2_with fail
  refine (rest_any n 8 _ (by omega) (by omega)).mono ?_
  rintro r w3 ⟨rfl, hw⟩
  rw [hw]
  clear hw
  go_wp2_with fail
  refine (last_err z a c _ _ (h.below hb) he).mono ?_
  rintro r w3 ⟨rfl, hk⟩
  replace hb := hb.trans (hk.mono hb.size)
  clear hk
  have hA := (Has.new w3 (clkC fun _ => 0) 49).alloc (.cells (clkC fun _ => 0) 49)
  have hB := (Has.new (w3.alloc (.cells (clkC fun _ => 0) 49)) (clkC fun _ => 0) 49).at (c := w3.heap.size + 1) (by simp)
  have hb5 := (hb.alloc hb.size (.cells (clkC fun _ => 0) 49)).alloc (by have := hb.size; simp; omega) (.cells (clkC fun _ => 0) 49)
  obtain ⟨a0, a1, a2, a3, a4, a5⟩ := hA.clk
  obtain ⟨b0, b1, b2, b3, b4, b5⟩ := hB.clk
  clear hA hB
  go_wp2
  go_ret
  exact ⟨rfl, hb5⟩

set_option maxRecDepth 100000 in
set_option maxHeartbeats 8000000 in
theorem fullSeen_ok (a : Option Addr) (z : List Ev) (c : Nat) (n : Int) (w : World) (h : EvS w a z) (he : (played z).2.2 = 0) :
    Calls Try.prog 8 #[.slice a z.length c, .int .i64 n] w fun e w' => e = .returned (.bool true) ∧ Below w.heap.size w w' := by
  have hm0 := Int.emod_nonneg n (show (8 : Int) ≠ 0 by omega)
  have hm1 := Int.emod_lt_of_pos n (show (0 : Int) < 8 by omega)
  obtain ⟨X, hX⟩ := Int.eq_ofNat_of_zero_le hm0
  have hX8 : X < 8 := by omega
  have hbig := h.big
  have HSR := Lib.hid (seen_rd he X)
  have HSW := Lib.hid (seen_wr he X)
  go_enter Try.func8, Try.ntmps8
  go_wp2_with fail
  refine (detected_any _).mono ?_
  rintro r w1 ⟨rfl, hb⟩
  go_wp2_with fail
  refine (rest_any n 8 _ (by omega) (by omega)).mono ?_
  rintro r w3 ⟨rfl, hw⟩
  rw [hw]
  clear hw
  rw [hX]
  clear hm0 hm1 hX
  replace h := h.below hb
  go_wp2_with fail
  refine (last_ok z a c X _ h he hX8).mono ?_
  rintro r w3 ⟨rfl, hk⟩
  replace h := h.below hk
  replace hb := hb.trans (hk.mono hb.size)
  clear hk he
  generalize rdAt z z.length X = f at *
  generalize wrAt z z.length X = g at *
  have hA := (Has.new w3 (clkC f) 49).alloc (.cells (clkC g) 49)
  have hB := (Has.new (w3.alloc (.cells (clkC f) 49)) (clkC g) 49).at (c := w3.heap.size + 1) (by simp)
  have hb5 := (hb.alloc hb.size (.cells (clkC f) 49)).alloc (by have := hb.size; simp; omega) (.cells (clkC g) 49)
  have hb6 := ((Below.refl w3.heap.size w3).alloc (Nat.le_refl _) (.cells (clkC f) 49)).alloc (by simp) (.cells (clkC g) 49)
  replace h := h.below hb6
  go_wp2_with fail
  generalize (w3.alloc (.cells (clkC f) 49)).alloc (.cells (clkC g) 49) = w4 at *
  clear hb hb6
  go_loopw [8, 9, 10, 34] (fun _ _ _ i wr => ∃ t : Nat, t ≤ 6 ∧ i = .int .i64 t ∧ Below w4.heap.size w4 wr) (fun _ _ _ i _ => 6 - (intOf i).toNat)
  case atStart => exact ⟨0, Nat.zero_le _, rfl, Below.refl _ _⟩
  case round =>
    obtain ⟨t, ht, rfl, hb7⟩ := hrel
    obtain ⟨wo, rfl⟩ : ∃ wo : World, wo = wr := ⟨_, rfl⟩
    by_cases ht6 : t < 6
    · go_wp2
      go_loopw [9, 10, 39] (fun p q i wr => ∃ k : Nat, k ≤ z.length ∧ i = .int .i64 k ∧ p = .bool (seenB z 1 X t k) ∧ q = .bool (seenB z 2 X t k) ∧ Below w4.heap.size w4 wr) (fun _ _ i _ => z.length - (intOf i).toNat)
      case atStart => exact ⟨0, Nat.zero_le _, rfl, rfl, rfl, hb7⟩
      case round =>
        clear hb7
        obtain ⟨k, hk, rfl, rfl, rfl, hb8⟩ := hrel
        by_cases hlt : k < z.length
        · obtain ⟨b', o', rfl, d0, d1, d2⟩ := (h.below hb8).at hlt
          rw [← evAt_lt hlt] at d0 d1 d2
          have s1 := seenB_succ z 1 X t k
          have s2 := seenB_succ z 2 X t k
          generalize evAt z k = x at *
          obtain ⟨p, hp⟩ : ∃ p, seenB z 1 X t k = p := ⟨_, rfl⟩
          obtain ⟨q, hq⟩ : ∃ q, seenB z 2 X t k = q := ⟨_, rfl⟩
          rw [hp] at s1
          rw [hq] at s2
          have S1 := Lib.hid s1
          have S2 := Lib.hid s2
          rw [hp, hq]
          clear s1 s2 hp hq
          have hN := Has.new wr (evC x) 34
          have hb9 := hb8.alloc hb8.size (.cells (evC x) 34)
          obtain ⟨x0, x1, x2⟩ : (wr.alloc (.cells (evC x) 34)).cell? ⟨wr.heap.size, 0, none⟩ = some (.int .i64 x.k) ∧ (wr.alloc (.cells (evC x) 34)).cell? ⟨wr.heap.size, 1, none⟩ = some (.int .i64 x.t) ∧ (wr.alloc (.cells (evC x) 34)).cell? ⟨wr.heap.size, 2, none⟩ = some (.int .i64 x.o) := ⟨hN.cell rfl, hN.cell rfl, hN.cell rfl⟩
          by_cases e1 : x.t = t
          · have t1 : (x.t == (t : Int)) = true := by simpa using e1
            by_cases e2 : x.o = X
            · have t2 : (x.o == (X : Int)) = true := by simpa using e2
              have T1 : Hid (seenB z 1 X t (k + 1) = (p || (x.k == 1))) := Lib.hid (by rw [S1.out]; simp only [e1, e2, and_true]; rfl)
              have T2 : Hid (seenB z 2 X t (k + 1) = (q || (x.k == 2))) := Lib.hid (by rw [S2.out]; simp only [e1, e2, and_true]; rfl)
              clear S1 S2 e1 e2
              go_wp2_with fail
              cases p <;> cases q
              all_goals
                go_quiet (fail)
                go_wp2
                go_roundw
                case rel => exact ⟨k + 1, by omega, by go_num, by rw [T1.out]; simp, by rw [T2.out]; simp, below_drewN hb9 _⟩
                case measure => (simp [intOf]; try omega)
            · have t2 : (x.o == (X : Int)) = false := by simpa using e2
              have T1 : Hid (seenB z 1 X t (k + 1) = p) := Lib.hid (by rw [S1.out]; simp [e2])
              have T2 : Hid (seenB z 2 X t (k + 1) = q) := Lib.hid (by rw [S2.out]; simp [e2])
              clear S1 S2 e1 e2
              go_wp2
              go_roundw
              case rel => exact ⟨k + 1, by omega, by go_num, by rw [T1.out], by rw [T2.out], hb9⟩
              case measure => (simp [intOf]; try omega)
          · have t1 : (x.t == (t : Int)) = false := by simpa using e1
            have T1 : Hid (seenB z 1 X t (k + 1) = p) := Lib.hid (by rw [S1.out]; simp [e1])
            have T2 : Hid (seenB z 2 X t (k + 1) = q) := Lib.hid (by rw [S2.out]; simp [e1])
            clear S1 S2 e1
            go_wp2
            go_roundw
            case rel => exact ⟨k + 1, by omega, by go_num, by rw [T1.out], by rw [T2.out], hb9⟩
            case measure => (simp [intOf]; try omega)
        · obtain rfl : k = z.length := by omega
          have hr := HSR.out t
          have hw := HSW.out t
          generalize seenB z 1 X t z.length = p at *
          generalize seenB z 2 X t z.length = q at *
          have i0 : (0 : Int) ≤ t := by omega
          have i6 : (t : Int) < 6 := by omega
          have a0 : wr.cell? ⟨w3.heap.size, t, none⟩ = some (.int .i64 (f t)) := (hA.below hb8 hA.lt).cell (clkC_get f t ht6)
          have b0 : wr.cell? ⟨w3.heap.size + 1, t, none⟩ = some (.int .i64 (g t)) := (hB.below hb8 hB.lt).cell (clkC_get g t ht6)
          have n1 : (p != p) = false := by simp
          have n2 : (q != q) = false := by simp
          go_wp2
          go_roundw
          case rel => exact ⟨t + 1, by omega, by go_num, hb8⟩
          case measure => (simp [intOf]; try omega)
    · obtain rfl : t = 6 := by omega
      go_wp2
      go_ret
      exact ⟨rfl, hb5.trans (hb7.mono hb5.size)⟩

theorem fullSeen_walk (a : Option Addr) (z : List Ev) (c : Nat) (n : Int) (w : World) (hf : EvS w a z ∧ z.length ≤ c ∧ z.length * 24 ≤ 140737488351232 ∧ ∀ e ∈ z, I64 e.k ∧ I64 e.t ∧ I64 e.o) (_ : I64 n) :
    Calls Try.prog 8 #[.slice a z.length c, .int .i64 n] w fun e w' => e = .returned (.bool true) ∧ Below w.heap.size w w' := by
  by_cases hm : (played z).2.2 = 0
  · exact fullSeen_ok a z c n w hf.1 hm
  · exact fullSeen_no a z c n w hf.1 hm
/-! The frame of the law FullSeen, by program. -/
set_option maxRecDepth 100000 in
theorem fullSeen_lifted (os : Os) (started : os.Started) (H : Type) (enc : TypeId × Value → H) :
    ReturnsInHanded {} Try.checked os 8 .any (Rows.fullSeenSpec.pre6 enc Try.prog Try.f8 Rows.fullSeenRow.domain false) (Rows.fullSeenSpec.post enc Try.prog Try.f8 false true false false) := by
  refine returnsInHanded_of_change_shaped (C := Try.checked) frame_own started (by kernel_rfl) Try.func8
    (ChangeSpec.witness6 (enc := enc) (C := Try.checked) false ⟨#[], #[.slice none 0 0, .int .i64 0], []⟩ 8 (by kernel_rfl) (by kernel_rfl) (by kernel_rfl) (by kernel_rfl)) ?_
  intro W base args ds gs before hval0 hW hcnd hsz hshaped hroom
  clear hcnd hshaped
  have hval : ∀ (j : Nat) t v, Try.f8.params[j]? = some t → args[j]? = some v → Value.okWide Try.prog W .any base t v := hval0
  have hW' := hW
  obtain ⟨p, q, hA0, hV, rfl, hfz, hnd⟩ := hW
  have hA : DataW.TrodAll enc Try.prog W 0 (fun _ => true) true Try.f8.params.toList args.toList ds p := hA0
  rw [Try.params8] at hA hval
  obtain ⟨v0, vs0, d0, ds0, p0, q0, hargs, rfl, rfl, h0, r0⟩ := trodAll_cons hA
  obtain ⟨v1, vs1, d1, ds1, p1, q1, rfl, rfl, rfl, h1, r1⟩ := trodAll_cons r0
  obtain ⟨rfl, rfl, rfl⟩ := trodAll_nil r1
  obtain rfl : args = #[v0, v1] := by cases args; simp_all
  obtain ⟨rfl, rfl⟩ := trodVars_none hV
  have k0 := h0
  have lt0 : ∀ x ∈ p0, x.block < W.heap.size := by obtain ⟨m, hm⟩ := k0; exact DataW.trod_lt m _ _ _ hm
  obtain ⟨a0, z0, c0, rfl, w0⟩ := open_evs (hval 0 22 v0 rfl rfl) h0 (fun els sp hd => sized_slice hsz (j := 0) rfl (by rw [hd]; rfl) Try.underlying22)
  have k1 := h1
  have lt1 : ∀ x ∈ p1, x.block < W.heap.size := by obtain ⟨m, hm⟩ := k1; exact DataW.trod_lt m _ _ _ hm
  obtain ⟨a1, rfl, rfl, rfl, w1⟩ := open_int Try.underlying3 (hval 1 3 v1 rfl rfl) h1
  clear hA0 hval0
  refine (fullSeen_walk a0 z0 c0 a1 W w0 (wf_i64 w1)).mono fun e W' ⟨he, bel⟩ => ?_
  subst he
  exact ⟨_, rfl, _, _, _, [], _, [], hW', trodAll_mk1 (shut_bool Try.underlying4 _), (trodAll_cons_mk (Below.trod frame_laid (by kernel_rfl) (of_decide_eq_true (by kernel_rfl)) k0 bel lt0) (trodAll_cons_mk (Below.trod frame_laid (by kernel_rfl) (of_decide_eq_true (by kernel_rfl)) k1 bel lt1) trodAll_mk0)), rfl, bel.frame _, fun h => by cases h⟩

theorem fullSeen_over : Rows.fullSeenRow.holds Try.pinned (OpenSpec.ofChange Rows.fullSeenSpec) :=
  OpenClaim.holds_of_wide 8 Try.f8 rfl rfl rfl rfl rfl rfl rfl ⟨rfl, rfl, rfl, rfl, rfl⟩ rfl rfl rfl rfl rfl (by kernel_rfl) Try.func8 (by kernel_rfl)
    (of_decide_eq_true (by kernel_rfl)) (by unfold Func.isWrapper; first | (rw [if_pos (by decide +kernel)]; kernel_rfl) | (rw [if_neg (by decide +kernel)]; exact ⟨rfl, rfl⟩))
    (fun os started H enc _ => fullSeen_lifted os started H enc)

/-- The statement. -/
theorem fullSeen_holds : Rows.FullSeenSaid := fullSeen_over

end Go.Proofs.Ytgliichceildgaa
