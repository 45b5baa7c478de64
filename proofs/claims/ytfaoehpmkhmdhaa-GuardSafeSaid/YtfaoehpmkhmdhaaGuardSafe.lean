/- GuardSafe: a variable with a lock in common at all accesses is never warned of, and never raced for: for every trace. -/
import Derived.Test.YtfaoehpmkhmdhaaRows
import Derived.Test.YtfaoehpmkhmdhaaGdK
import Derived.Test.YtfaoehpmkhmdhaaSec
import Derived.Test.YtfaoehpmkhmdhaaHasI
import Derived.Test.YtfaoehpmkhmdhaaOpenE
namespace Go.Proofs.Ytfaoehpmkhmdhaa
open Go.ChangeShapes Go.WideShapes Go.ChangeAt Go.RowKit

theorem guardSafe_no (a : Option Addr) (z : List Ev) (c : Nat) (w : World) (h : EvS w a z) (he : mayB z = false) :
    Calls Try.prog 8 #[.slice a z.length c] w fun e w' => e = .returned (.bool true) ∧ Below w.heap.size w w' := by
  go_enter Try.func8, Try.ntmps8
  go_wp2_with fail
  refine (guarded_any _).mono ?_
  rintro r w1 ⟨rfl, hb⟩
  go_wp2_with fail
  refine (may_any z a c _ (h.below hb)).mono ?_
  rintro r w2 ⟨rfl, hk⟩
  rw [he]
  go_wp2
  go_ret
  exact ⟨rfl, hb.trans (hk.mono hb.size)⟩
theorem common_m (l : List Ev) (a : Option Addr) (c : Nat) (x : Nat) (w : World) (h : EvS w a l) (hp : (played l).2.2 = 0) (hx : x < 8) (n : Int) (hn : (coL l x l.length : Int) = n) :
    Calls Try.prog 22 #[.slice a l.length c, .int .i64 (x : Int)] w fun r w' => r = .returned (.tuple #[.int .i64 n, .int .i64 0]) ∧ Below w.heap.size w w' := hn ▸ common_ok l a c x w h hp hx
theorem hasInt_no (l : List Int) (x : Int) (hx : x ∉ l) (a : Option Addr) (c : Nat) (w : World) (h : IntS w a l) :
    Calls Try.prog 24 #[.slice a l.length c, .int .i64 x] w fun e w' => e = .returned (.bool false) ∧ w' = w := by
  have := hasInt_any l x a c w h
  rwa [show hasB l x = false by simp [hasB, hx]] at this

set_option maxRecDepth 100000 in
set_option maxHeartbeats 8000000 in
theorem guardSafe_ok (a : Option Addr) (z : List Ev) (c : Nat) (w : World) (h : EvS w a z) (hm : mayB z = true) :
    Calls Try.prog 8 #[.slice a z.length c] w fun e w' => e = .returned (.bool true) ∧ Below w.heap.size w w' := by
  have he : (played z).2.2 = 0 := by simpa [mayB] using hm
  have hbig := h.big
  have hl80 := (played_evs he).1
  have hwz := gWs_may hm
  have hfl := (gdL_ok he (Nat.le_refl _)).W
  have hsw := fun {x : Nat} {f : Ev} (hf : f ∈ (gdL z z.length).W) (hx : f.t = x) => safe_warn he hf hx
  have hsr := fun {x : Int} (hx : coL z x z.length ≠ 0) => safe_race he hx
  generalize hA : (gdL z z.length).W = A at *
  generalize hV : secL ((raceL z).map Rc.v) = V at *
  have HSW := Lib.hid (show ∀ (x : Nat) (f : Ev), f ∈ A → f.t = x → coL z x z.length = 0 from fun x f hf hx => hsw hf hx)
  have HSR := Lib.hid (show ∀ x : Int, coL z x z.length ≠ 0 → x ∉ V from fun x hx => hsr hx)
  have HWA := Lib.hid (show ∀ w, EvS w a z → Calls Try.prog 18 #[.slice a z.length c] w fun r w' => ∃ a' c', r = .returned (.tuple #[.slice a' A.length c', .int .i64 0]) ∧ EvS w' a' A ∧ Below w.heap.size w w' from fun w hw => (warns_any z a c w hw).mono fun r w' ⟨a', c', e, h1, _, h2⟩ => ⟨a', c', by rw [← hwz, ← he]; exact e, by rw [← hwz]; exact h1, h2⟩)
  have HVA := Lib.hid (show ∀ w, EvS w a z → Calls Try.prog 23 #[.slice a z.length c] w (SecPost V w) from fun w hw => by
    have := vars_ok z z.length rfl a c w hw he
    rwa [hV] at this)
  have HM := Lib.hid hm
  have HE := Lib.hid he
  clear hm he hwz hsw hsr hA hV
  go_enter Try.func8, Try.ntmps8
  go_wp2_with fail
  refine (guarded_any _).mono ?_
  rintro r w1 ⟨rfl, hb⟩
  go_wp2_with fail
  refine (may_any z _ c _ (h.below hb)).mono ?_
  rintro r w2 ⟨rfl, hk⟩
  rw [HM.out]
  replace hb := hb.trans (hk.mono hb.size)
  clear hk
  go_wp2_with fail
  refine (HWA.out _ (h.below hb)).mono ?_
  rintro r w3 ⟨a1, c1, rfl, hAS, hk⟩
  replace hb := hb.trans (hk.mono hb.size)
  clear hk
  go_wp2_with fail
  refine (HVA.out _ (h.below hb)).mono ?_
  rintro r w4 ⟨a2, c2, rfl, hVS, hk⟩
  replace hAS := hAS.below hk
  replace hb := hb.trans (hk.mono hb.size)
  clear hk
  go_wp2
  have hbR := Below.refl w4.heap.size w4
  go_loopw [27] (fun i wr => ∃ x : Nat, x ≤ 8 ∧ i = .int .i64 x ∧ Below w.heap.size w wr ∧ Below w4.heap.size w4 wr) (fun i _ => 8 - (intOf i).toNat)
  case atStart => exact ⟨0, Nat.zero_le _, rfl, hb, hbR⟩
  case round =>
    clear hb hbR
    obtain ⟨x, hx, rfl, hb5, hb6⟩ := hrel
    by_cases hxl : x < 8
    · have x0 : (0 : Int) ≤ x := by omega
      have x1 : (x : Int) < 8 := by omega
      obtain ⟨n, hn⟩ : ∃ n : Int, (coL z x z.length : Int) = n := ⟨_, rfl⟩
      have h32 := coL_lt z x z.length
      have hn0 : 0 ≤ n ∧ n < 32 := by omega
      have HN := Lib.hid hn
      clear h32
      go_wp2_with fail
      refine (common_m z a c x wr (h.below hb5) HE.out hxl n hn).mono ?_
      rintro r w7 ⟨rfl, hk⟩
      have hb7 := hb5.trans (hk.mono hb5.size)
      have hb8 := hb6.trans (hk.mono hb6.size)
      clear hk hn hb5 hb6
      by_cases q1 : n = 0
      · subst q1
        clear HN hn0
        go_wp2
        go_loopw [40] (fun i wi => ∃ m : Nat, m ≤ A.length ∧ i = .int .i64 m ∧ Below w.heap.size w wi ∧ Below w4.heap.size w4 wi) (fun i _ => A.length - (intOf i).toNat)
        case atStart => exact ⟨0, Nat.zero_le _, rfl, hb7, hb8⟩
        case round =>
          clear hb7 hb8
          obtain ⟨m, hm, rfl, hb7, hb8⟩ := hrel
          by_cases hlt : m < A.length
          · obtain ⟨b1, o1, rfl, e0, e1, e2⟩ := (hAS.below hb8).at hlt
            have hsw := HSW.out x A[m] (List.getElem_mem hlt)
            generalize A[m] = f at *
            have hb9 := hb7.alloc hb7.size (.cells (evC f) 36)
            have hb10 := hb8.alloc hb8.size (.cells (evC f) 36)
            have m0 : (0 : Int) ≤ m := by omega
            have m1 : (m : Int) < A.length := by omega
            clear hb7 hb8
            clear hsw
            go_wp2
            go_roundw
            case rel => exact ⟨m + 1, by omega, by go_num, hb9, hb10⟩
            case measure => (simp [intOf]; try omega)
          · obtain rfl : m = A.length := by omega
            go_wp2
            go_roundw
            case rel => exact ⟨x + 1, by omega, by go_num, hb7, hb8⟩
            case measure => (simp [intOf]; try omega)
      · by_cases q2 : n = 31
        · subst q2
          go_wp2
          go_loopw [40] (fun i wi => ∃ m : Nat, m ≤ A.length ∧ i = .int .i64 m ∧ Below w.heap.size w wi ∧ Below w4.heap.size w4 wi) (fun i _ => A.length - (intOf i).toNat)
          case atStart => exact ⟨0, Nat.zero_le _, rfl, hb7, hb8⟩
          case round =>
            clear hb7 hb8
            obtain ⟨m, hm, rfl, hb7, hb8⟩ := hrel
            by_cases hlt : m < A.length
            · obtain ⟨b1, o1, rfl, e0, e1, e2⟩ := (hAS.below hb8).at hlt
              have hsw := HSW.out x A[m] (List.getElem_mem hlt)
              generalize A[m] = f at *
              have hb9 := hb7.alloc hb7.size (.cells (evC f) 36)
              have hb10 := hb8.alloc hb8.size (.cells (evC f) 36)
              have m0 : (0 : Int) ≤ m := by omega
              have m1 : (m : Int) < A.length := by omega
              clear hb7 hb8
              have r5 : (f.t == (x : Int)) = false := beq_eq_false_iff_ne.2 fun e => by
                have h1 := hsw e
                have h2 := HN.out
                rw [h1] at h2
                omega
              clear hsw
              go_wp2
              go_roundw
              case rel => exact ⟨m + 1, by omega, by go_num, hb9, hb10⟩
              case measure => (simp [intOf]; try omega)
            · obtain rfl : m = A.length := by omega
              go_wp2
              go_roundw
              case rel => exact ⟨x + 1, by omega, by go_num, hb7, hb8⟩
              case measure => (simp [intOf]; try omega)
        · have r1 : (n == 0) = false := beq_eq_false_iff_ne.2 q1
          have r2 : (n == 31) = false := beq_eq_false_iff_ne.2 q2
          have r3 : (n != 0) = true := by simp [bne, r1]
          have r4 : (n != 31) = true := by simp [bne, r2]
          go_wp2
          go_loopw [40] (fun i wi => ∃ m : Nat, m ≤ A.length ∧ i = .int .i64 m ∧ Below w.heap.size w wi ∧ Below w4.heap.size w4 wi) (fun i _ => A.length - (intOf i).toNat)
          case atStart => exact ⟨0, Nat.zero_le _, rfl, hb7, hb8⟩
          case round =>
            clear hb7 hb8
            obtain ⟨m, hm, rfl, hb7, hb8⟩ := hrel
            by_cases hlt : m < A.length
            · obtain ⟨b1, o1, rfl, e0, e1, e2⟩ := (hAS.below hb8).at hlt
              have hsw := HSW.out x A[m] (List.getElem_mem hlt)
              generalize A[m] = f at *
              have hb9 := hb7.alloc hb7.size (.cells (evC f) 36)
              have hb10 := hb8.alloc hb8.size (.cells (evC f) 36)
              have m0 : (0 : Int) ≤ m := by omega
              have m1 : (m : Int) < A.length := by omega
              clear hb7 hb8
              have r5 : (f.t == (x : Int)) = false := beq_eq_false_iff_ne.2 fun e => by
                have h1 := hsw e
                have h2 := HN.out
                rw [h1] at h2
                omega
              clear hsw
              go_wp2
              go_roundw
              case rel => exact ⟨m + 1, by omega, by go_num, hb9, hb10⟩
              case measure => (simp [intOf]; try omega)
            · obtain rfl : m = A.length := by omega
              have HNOT := Lib.hid (show (x : Int) ∉ V from HSR.out x fun e => by
                have h2 := HN.out
                rw [e] at h2
                omega)
              go_wp2_with fail
              refine (hasInt_no V x HNOT.out a2 c2 _ (hVS.below hb8)).mono ?_
              rintro r w11 ⟨rfl, rfl⟩
              go_wp2
              go_roundw
              case rel => exact ⟨x + 1, by omega, by go_num, hb7, hb8⟩
              case measure => (simp [intOf]; try omega)
    · obtain rfl : x = 8 := by omega
      go_wp2
      go_ret
      exact ⟨rfl, hb5⟩
theorem guardSafe_walk (a : Option Addr) (z : List Ev) (c : Nat) (w : World) (hf : EvS w a z ∧ z.length ≤ c ∧ z.length * 24 ≤ 140737488351232 ∧ ∀ e ∈ z, I64 e.k ∧ I64 e.t ∧ I64 e.o) :
    Calls Try.prog 8 #[.slice a z.length c] w fun e w' => e = .returned (.bool true) ∧ Below w.heap.size w w' := by
  cases hm : mayB z
  · exact guardSafe_no a z c w hf.1 hm
  · exact guardSafe_ok a z c w hf.1 hm
/-! The frame of the law GuardSafe, by program. -/
set_option maxRecDepth 100000 in
theorem guardSafe_lifted (os : Os) (started : os.Started) (H : Type) (enc : TypeId × Value → H) :
    ReturnsInHanded {} Try.checked os 8 .any (Rows.guardSafeSpec.pre6 enc Try.prog Try.f8 Rows.guardSafeRow.domain false) (Rows.guardSafeSpec.post enc Try.prog Try.f8 false true false false) := by
  refine returnsInHanded_of_change_shaped (C := Try.checked) frame_own started (by kernel_rfl) Try.func8
    (ChangeSpec.witness6 (enc := enc) (C := Try.checked) false ⟨#[], #[.slice none 0 0], []⟩ 8 (by kernel_rfl) (by kernel_rfl) (by kernel_rfl) (by kernel_rfl)) ?_
  intro W base args ds gs before hval0 hW hcnd hsz hshaped hroom
  clear hcnd hshaped
  have hval : ∀ (j : Nat) t v, Try.f8.params[j]? = some t → args[j]? = some v → Value.okWide Try.prog W .any base t v := hval0
  have hW' := hW
  obtain ⟨p, q, hA0, hV, rfl, hfz, hnd⟩ := hW
  have hA : DataW.TrodAll enc Try.prog W 0 (fun _ => true) true Try.f8.params.toList args.toList ds p := hA0
  rw [Try.params8] at hA hval
  obtain ⟨v0, vs0, d0, ds0, p0, q0, hargs, rfl, rfl, h0, r0⟩ := trodAll_cons hA
  obtain ⟨rfl, rfl, rfl⟩ := trodAll_nil r0
  obtain rfl : args = #[v0] := by cases args; simp_all
  obtain ⟨rfl, rfl⟩ := trodVars_none hV
  have k0 := h0
  have lt0 : ∀ x ∈ p0, x.block < W.heap.size := by obtain ⟨m, hm⟩ := k0; exact DataW.trod_lt m _ _ _ hm
  obtain ⟨a0, z0, c0, rfl, w0⟩ := open_evs (hval 0 28 v0 rfl rfl) h0 (fun els sp hd => sized_slice hsz (j := 0) rfl (by rw [hd]; rfl) Try.underlying28)
  clear hA0 hval0
  refine (guardSafe_walk a0 z0 c0 W w0).mono fun e W' ⟨he, bel⟩ => ?_
  subst he
  exact ⟨_, rfl, _, _, _, [], _, [], hW', trodAll_mk1 (shut_bool Try.underlying4 _), (trodAll_cons_mk (Below.trod frame_laid (by kernel_rfl) (of_decide_eq_true (by kernel_rfl)) k0 bel lt0) trodAll_mk0), rfl, bel.frame _, fun h => by cases h⟩

theorem guardSafe_over : Rows.guardSafeRow.holds Try.pinned (OpenSpec.ofChange Rows.guardSafeSpec) :=
  OpenClaim.holds_of_wide 8 Try.f8 rfl rfl rfl rfl rfl rfl rfl ⟨rfl, rfl, rfl, rfl, rfl⟩ rfl rfl rfl rfl rfl (by kernel_rfl) Try.func8 (by kernel_rfl)
    (of_decide_eq_true (by kernel_rfl)) (by unfold Func.isWrapper; first | (rw [if_pos (by decide +kernel)]; kernel_rfl) | (rw [if_neg (by decide +kernel)]; exact ⟨rfl, rfl⟩))
    (fun os started H enc _ => guardSafe_lifted os started H enc)

/-- The statement. -/
theorem guardSafe_holds : Rows.GuardSafeSaid := guardSafe_over

end Go.Proofs.Ytfaoehpmkhmdhaa
