/- OrderSteps: directly preceding events happen before, and happens-before consists of direct steps: for every trace. -/
import Derived.Test.YtlphmkdlacnnoaaRows
import Derived.Test.YtlphmkdlacnnoaaRng
import Derived.Test.YtlphmkdlacnnoaaOrdF
import Derived.Test.YtlphmkdlacnnoaaOrdS
import Derived.Test.YtlphmkdlacnnoaaOpenE
namespace Go.Proofs.Ytlphmkdlacnnoaa
open Go.ChangeShapes Go.WideShapes Go.ChangeAt Go.RowKit Go.Maps

theorem dirL_I64 {l : List Ev} (hl : l.length ≤ 80) : ∀ p ∈ dirL l, I64P p := by
  intro p hp
  obtain ⟨i, j, rfl, hij, hj, _⟩ := mem_dirL.1 hp
  exact ⟨⟨by simp only; omega, by simp only; omega⟩, ⟨by simp only; omega, by simp only; omega⟩⟩
theorem dirL_len (l : List Ev) (hl : l.length ≤ 80) : (dirL l).length ≤ 6400 := by
  have h1 := allP_len (fun i j => dirE (evAt l i) (evAt l j)) l.length l.length
  have h2 : l.length * l.length ≤ 80 * 80 := Nat.mul_le_mul hl hl
  simp only [dirL]
  omega
/-- Is one directly ahead of a later one? -/
def dB (l : List Ev) (i j : Nat) : Bool := decide (i < j) && dirE (evAt l i) (evAt l j)
theorem inB_dirL {l : List Ev} (i j : Nat) (hj : j < l.length) : inB (dirL l) ((i : Int), (j : Int)) = dB l i j := by
  apply Bool.eq_iff_iff.2
  simp only [inB, decide_eq_true_eq, mem_dirL, dB, Bool.and_eq_true]
  constructor
  · rintro ⟨a, b, h1, h2, h3, h4⟩
    simp only [Prod.mk.injEq] at h1
    obtain rfl : a = i := by omega
    obtain rfl : b = j := by omega
    exact ⟨h2, h4⟩
  · rintro ⟨h1, h2⟩
    exact ⟨i, j, rfl, h1, hj, h2⟩
/-- By steps, the middle one below m. -/
def stepB (l : List Ev) (i j : Nat) : Nat → Bool
  | 0 => dB l i j
  | m + 1 => stepB l i j m || (dB l i m && R l j m)
theorem stepB_mono {l : List Ev} {i j m n : Nat} (hmn : m ≤ n) (h : stepB l i j m = true) : stepB l i j n = true := by
  induction n with
  | zero => obtain rfl : m = 0 := by omega
            exact h
  | succ n ih =>
    by_cases e : m = n + 1
    · subst e; exact h
    · simp only [stepB, ih (by omega), Bool.true_or]
theorem stepB_R {l : List Ev} {i j : Nat} (hj : j < l.length) (h : R l j i = true) : stepB l i j l.length = true := by
  rcases R_left h with h1 | ⟨k, h1, h2, h3⟩
  · exact stepB_mono (Nat.zero_le _) (by simp [stepB, dB, h1, R_lt h])
  · have := R_lt h3
    refine stepB_mono (m := k + 1) (by omega) ?_
    simp [stepB, dB, h1, h2, h3]
/-- A look-up among the direct ones. -/
theorem MapP.lookD {w : World} {b n : Nat} {l : List Ev} (h : MapP w b n (dirL l)) (hl : l.length ≤ 80) (i j : Nat) (hi : i < l.length) (hj : j < l.length) :
    (Instr.lookup 25 (.map (some b)) (.agg #[.int .i64 (i : Int), .int .i64 (j : Int)]) false).run Try.prog w = .ok (.bool (dB l i j)) w := by
  rw [← inB_dirL i j hj]
  exact h.look (dirL_I64 hl) ((i : Int), (j : Int)) ⟨⟨by simp only; omega, by simp only; omega⟩, ⟨by simp only; omega, by simp only; omega⟩⟩

theorem orderSteps_no (a : Option Addr) (z : List Ev) (c : Nat) (w : World) (h : EvS w a z) (he : (played z).2.2 ≠ 0) :
    Calls Try.prog 7 #[.slice a z.length c] w fun e w' => e = .returned (.bool true) ∧ Below w.heap.size w w' := by
  have e2 : ((played z).2.2 != 0) = true := by simpa using he
  have hm : mayB z = false := by simpa [mayB] using he
  go_enter Try.func7, Try.ntmps7
  go_wp2_with fail
  refine (ordered_any _).mono ?_
  rintro r w1 ⟨rfl, hb⟩
  go_wp2_with fail
  refine (direct_err z a c _ (h.below hb) he).mono ?_
  rintro r w2 ⟨rfl, hk⟩
  replace hb := hb.trans (hk.mono hb.size)
  clear hk
  go_wp2_with fail
  refine (may_any z a c _ (h.below hb)).mono ?_
  rintro r w3 ⟨rfl, hk⟩
  rw [hm]
  go_wp2
  go_ret
  exact ⟨rfl, hb.trans (hk.mono hb.size)⟩

set_option maxHeartbeats 8000000 in
theorem orderSteps_ok (a : Option Addr) (z : List Ev) (c : Nat) (w : World) (h : EvS w a z) (he : (played z).2.2 = 0) :
    Calls Try.prog 7 #[.slice a z.length c] w fun e w' => e = .returned (.bool true) ∧ Below w.heap.size w w' := by
  have hbig := h.big
  have hl80 := (played_evs he).1
  have hmm := @run_makeMap Try.prog
  have HE := Lib.hid he
  have hdl := dirL_len z hl80
  have HDI := Lib.hid (dirL_I64 hl80)
  clear he
  go_enter Try.func7, Try.ntmps7
  go_wp2_with fail
  refine (ordered_any _).mono ?_
  rintro r w1 ⟨rfl, hb⟩
  go_wp2_with fail
  refine (direct_ok z a c _ (h.below hb) HE.out).mono ?_
  rintro r w2 ⟨v, rfl, hown, hk⟩
  have hex : ∃ a2 c2, v = .slice a2 (dirL z).length c2 ∧ PrS w2 a2 (dirL z) := prS_own hown (by omega)
  obtain ⟨a2, c2, rfl, hP⟩ := hex
  have hb2 := hb.trans (hk.mono hb.size)
  clear hk hb hown
  go_wp2_with fail
  refine (aheadMap_ok z a c _ (h.below hb2) HE.out).mono ?_
  rintro r w3 ⟨b, n, rfl, hbb, hn, hM, hk⟩
  have hb3 := hb2.trans (hk.mono hb2.size)
  replace hP := hP.below hk
  clear hk
  replace h := h.below hb3
  have HI := Lib.hid (I64P_bef hl80)
  have hMl := World.ownsMap.lt hM
  have hD := MapP.made w3
  have hb4 := (Below.refl w3.heap.size w3).alloc (Nat.le_refl _) (.map #[] 0)
  have HM := Lib.hid hM
  clear hM
  generalize hLL : dirL z = L at *
  have HLL := Lib.hid hLL
  clear hLL
  go_wp2
  go_loopw [8, 34] (fun _ i wr => ∃ k : Nat, k ≤ L.length ∧ i = .int .i64 k ∧ MapP wr w3.heap.size k (L.take k) ∧ Below w3.heap.size w3 wr) (fun _ i _ => L.length - (intOf i).toNat)
  case atStart => exact ⟨0, Nat.zero_le _, rfl, hD, hb4⟩
  case round =>
    clear hD hb4
    obtain ⟨k, hk, rfl, hD, hb4⟩ := hrel
    by_cases hlt : k < L.length
    · obtain ⟨b', o', rfl, d0, d1⟩ := (hP.below hb4).at hlt
      have hx : L.take (k + 1) = L.take k ++ [L[k]] := by rw [List.take_add_one, List.getElem?_eq_getElem hlt]; rfl
      have hi := HDI.out L[k] (List.getElem_mem hlt)
      have hmem2 : L[k] ∈ dirL z := by rw [HLL.out]; exact List.getElem_mem hlt
      obtain ⟨i, j, hij, h1, h2, h3⟩ := mem_dirL.1 hmem2
      rw [hij] at d0 d1 hx hi
      have hR := R_dir h1 h3
      clear hmem2 hij h3
      have HX := Lib.hid hx
      clear hx
      simp only at d0 d1
      have hDx := hD.alloc (.cells #[.int .i64 (i : Int), .int .i64 (j : Int)] 28)
      have hb5 := hb4.alloc hb4.size (.cells #[.int .i64 (i : Int), .int .i64 (j : Int)] 28)
      have hN := Has.new wr #[.int .i64 (i : Int), .int .i64 (j : Int)] 28
      have hwr : w3.heap.size < wr.heap.size := World.ownsMap.lt hD
      go_wp2_with (first | (at_mapUpdate; refine wpList_mapUpdate_own _ rfl _ _ _ 25 rfl 28 4 pr_keyed Try.underlying25 _ w3.heap.size k (prD (L.take k)) rfl hDx (by unfold maxLen; omega) _ _ (prKey ((i : Int), (j : Int))) rfl rfl (keyOf_pr ((i : Int), (j : Int)) hi.1 hi.2) (.lit (.bool true)) [] (plainElem_bool Try.underlying4 true) ?_; intro w5 hD5 hg5; have hN5 := hN.grown hg5 (by intro e; injection e with e; omega); have hb6 := hb5.grown hg5 hb5.size (fun j hj => by cases hj; exact Nat.le_refl _); have hq1 := ((HM.out.below hb6)).look1 hl80 i j (by omega) h2; rw [hR] at hq1; have n0 : w5.cell? ⟨wr.heap.size, 0, none⟩ = some (.int .i64 (i : Int)) := hN5.cell rfl; have n1 : w5.cell? ⟨wr.heap.size, 1, none⟩ = some (.int .i64 (j : Int)) := hN5.cell rfl) | go_in)
      clear hN hDx hb5 hD hb4 hR d0 d1 hg5
      go_wp2
      go_roundw
      case rel => exact ⟨k + 1, by omega, by go_num, by rw [HX.out, MapP, prD_snoc]; exact hD5, hb6⟩
      case measure => (simp [intOf]; try omega)
    · obtain rfl : k = L.length := by omega
      rw [List.take_length, ← HLL.out] at hD
      have hMl2 := World.ownsMap.lt hD
      have hM4 := HM.out.below hb4
      have hb40 := hb3.trans (hb4.mono hb3.size)
      obtain ⟨w4, rfl⟩ : ∃ w4 : World, w4 = wr := ⟨_, rfl⟩
      go_wp2_with (first | (at_range; refine wpList_range_set _ rfl _ rfl b n _ rfl hM4 ?_; intro w6 cnt0 hrg0 hg0 hs0) | go_in)
      go_frame
      have hb6 := ((Below.refl w4.heap.size w4).grown hg0 (Nat.le_refl _) (fun j hj => by cases hj))
      generalize hr : w4.heap.size = rr at *
      go_loopw [9] (fun _ wr => ∃ cnt, RangeP wr b rr n (befL z) cnt ∧ Below rr w4 wr) (fun _ wr => wr.rangeLeft b rr)
      case atStart => exact ⟨_, hrg0, hb6⟩
      case round =>
        clear hrg0 hb6 hg0 hs0 hM4
        obtain ⟨cnt, hrg, hb6⟩ := hrel
        go_wp2_with (first | (at_next; refine wpList_next_set _ rfl _ rfl b rr n _ cnt rfl hrg HI.out ?_ ?_) | go_in)
        · intro _
          go_wp2
          go_ret
          subst hr
          exact ⟨rfl, hb40.trans (hb6.mono hb40.size)⟩
        · intro pi pj xx w5 cnt' hp hrg5 hlt5 hg5 hs5 hen
          obtain ⟨i, j, hpe, hj, hRji⟩ := mem_befL.1 hp
          obtain ⟨rfl, rfl⟩ := Prod.mk.inj hpe
          have hij := R_lt hRji
          have hb7 := hb6.grown hg5 (by have := hb6.size; omega) (fun q hq => by cases hq; exact Nat.le_refl _)
          have hrg6 := hrg5.alloc (.cells #[.int .i64 (i : Int), .int .i64 (j : Int)] 28)
          have hb8 := hb7.alloc (by have := hb7.size; omega) (.cells #[.int .i64 (i : Int), .int .i64 (j : Int)] 28)
          have hN := Has.new w5 #[.int .i64 (i : Int), .int .i64 (j : Int)] 28
          have HS := Lib.hid (stepB_R hj hRji)
          subst hr
          have hd0 := (hD.below hb8).lookD hl80 i j (by omega) hj
          clear hRji hp hpe hs5
          have n0 : (w5.alloc (.cells #[.int .i64 (i : Int), .int .i64 (j : Int)] 28)).cell? ⟨w5.heap.size, 0, none⟩ = some (.int .i64 (i : Int)) := hN.cell rfl
          have n1 : (w5.alloc (.cells #[.int .i64 (i : Int), .int .i64 (j : Int)] 28)).cell? ⟨w5.heap.size, 1, none⟩ = some (.int .i64 (j : Int)) := hN.cell rfl
          go_wp2
          go_loopw [10, 56] (fun q v w2 => ∃ m : Nat, m ≤ z.length ∧ q = .bool (stepB z i j m) ∧ v = .int .i64 m ∧ RangeP w2 b w4.heap.size n (befL z) cnt' ∧ Has w2 w5.heap.size #[.int .i64 (i : Int), .int .i64 (j : Int)] 28 ∧ Below w4.heap.size w4 w2) (fun _ v _ => z.length - (intOf v).toNat)
          case atStart => exact ⟨0, Nat.zero_le _, rfl, rfl, hrg6, hN, hb8⟩
          case round =>
            clear hrg6 hN hb8 n0 n1 hd0
            obtain ⟨wv, rfl⟩ : ∃ wv : World, wv = wr := ⟨_, rfl⟩
            obtain ⟨m, hmz, rfl, rfl, hrg6, hN, hb8⟩ := hrel
            by_cases hml : m < z.length
            · have n0 : wv.cell? ⟨w5.heap.size, 0, none⟩ = some (.int .i64 (i : Int)) := hN.cell rfl
              have n1 : wv.cell? ⟨w5.heap.size, 1, none⟩ = some (.int .i64 (j : Int)) := hN.cell rfl
              have hq1 := (hD.below hb8).lookD hl80 i m (by omega) hml
              have hq2 := hrg6.map.look1 hl80 m j hml hj
              have he : stepB z i j (m + 1) = (stepB z i j m || (dB z i m && R z j m)) := rfl
              cases hA : stepB z i j m
              · cases hB : dB z i m
                · rw [hB] at hq1
                  rw [hA, hB] at he
                  have HE2 := Lib.hid he
                  clear hA hB he hq2
                  go_wp2
                  go_roundw
                  case rel => exact ⟨m + 1, by omega, by rw [HE2.out]; rfl, by go_num, hrg6, hN, hb8⟩
                  case measure => (simp [intOf]; try omega)
                · rw [hB] at hq1
                  rw [hA, hB] at he
                  have HE2 := Lib.hid he
                  clear hA hB he
                  go_wp2
                  go_roundw
                  case rel => exact ⟨m + 1, by omega, by rw [HE2.out]; rfl, by go_num, hrg6, hN, hb8⟩
                  case measure => (simp [intOf]; try omega)
              · rw [hA] at he
                have HE2 := Lib.hid he
                clear hA he hq1 hq2
                go_wp2
                go_roundw
                case rel => exact ⟨m + 1, by omega, by rw [HE2.out]; rfl, by go_num, hrg6, hN, hb8⟩
                case measure => (simp [intOf]; try omega)
            · obtain rfl : m = z.length := by omega
              rw [HS.out]
              go_wp2
              go_roundw
              case rel => exact ⟨_, hrg6, hb8⟩
              case measure => rw [hrg6.left_eq, hrg.left_eq]; exact hlt5

theorem orderSteps_walk (a : Option Addr) (z : List Ev) (c : Nat) (w : World) (hf : EvS w a z ∧ z.length ≤ c ∧ z.length * 24 ≤ 140737488351232 ∧ ∀ e ∈ z, I64 e.k ∧ I64 e.t ∧ I64 e.o) :
    Calls Try.prog 7 #[.slice a z.length c] w fun e w' => e = .returned (.bool true) ∧ Below w.heap.size w w' := by
  by_cases hm : (played z).2.2 = 0
  · exact orderSteps_ok a z c w hf.1 hm
  · exact orderSteps_no a z c w hf.1 hm
/-! The frame of the law OrderSteps, by program. -/
set_option maxRecDepth 100000 in
theorem orderSteps_lifted (os : Os) (started : os.Started) (H : Type) (enc : TypeId × Value → H) :
    ReturnsInHanded {} Try.checked os 7 .any (Rows.orderStepsSpec.pre6 enc Try.prog Try.f7 Rows.orderStepsRow.domain false) (Rows.orderStepsSpec.post enc Try.prog Try.f7 false true false false) := by
  refine returnsInHanded_of_change_shaped (C := Try.checked) frame_own started (by kernel_rfl) Try.func7
    (ChangeSpec.witness6 (enc := enc) (C := Try.checked) false ⟨#[], #[.slice none 0 0], []⟩ 8 (by kernel_rfl) (by kernel_rfl) (by kernel_rfl) (by kernel_rfl)) ?_
  intro W base args ds gs before hval0 hW hcnd hsz hshaped hroom
  clear hcnd hshaped
  have hval : ∀ (j : Nat) t v, Try.f7.params[j]? = some t → args[j]? = some v → Value.okWide Try.prog W .any base t v := hval0
  have hW' := hW
  obtain ⟨p, q, hA0, hV, rfl, hfz, hnd⟩ := hW
  have hA : DataW.TrodAll enc Try.prog W 0 (fun _ => true) true Try.f7.params.toList args.toList ds p := hA0
  rw [Try.params7] at hA hval
  obtain ⟨v0, vs0, d0, ds0, p0, q0, hargs, rfl, rfl, h0, r0⟩ := trodAll_cons hA
  obtain ⟨rfl, rfl, rfl⟩ := trodAll_nil r0
  obtain rfl : args = #[v0] := by cases args; simp_all
  obtain ⟨rfl, rfl⟩ := trodVars_none hV
  have k0 := h0
  have lt0 : ∀ x ∈ p0, x.block < W.heap.size := by obtain ⟨m, hm⟩ := k0; exact DataW.trod_lt m _ _ _ hm
  obtain ⟨a0, z0, c0, rfl, w0⟩ := open_evs (hval 0 22 v0 rfl rfl) h0 (fun els sp hd => sized_slice hsz (j := 0) rfl (by rw [hd]; rfl) Try.underlying22)
  clear hA0 hval0
  refine (orderSteps_walk a0 z0 c0 W w0).mono fun e W' ⟨he, bel⟩ => ?_
  subst he
  exact ⟨_, rfl, _, _, _, [], _, [], hW', trodAll_mk1 (shut_bool Try.underlying4 _), (trodAll_cons_mk (Below.trod frame_laid (by kernel_rfl) (of_decide_eq_true (by kernel_rfl)) k0 bel lt0) trodAll_mk0), rfl, bel.frame _, fun h => by cases h⟩

theorem orderSteps_over : Rows.orderStepsRow.holds Try.pinned (OpenSpec.ofChange Rows.orderStepsSpec) :=
  OpenClaim.holds_of_wide 7 Try.f7 rfl rfl rfl rfl rfl rfl rfl ⟨rfl, rfl, rfl, rfl, rfl⟩ rfl rfl rfl rfl rfl (by kernel_rfl) Try.func7 (by kernel_rfl)
    (of_decide_eq_true (by kernel_rfl)) (by unfold Func.isWrapper; first | (rw [if_pos (by decide +kernel)]; kernel_rfl) | (rw [if_neg (by decide +kernel)]; exact ⟨rfl, rfl⟩))
    (fun os started H enc _ => orderSteps_lifted os started H enc)

/-- The statement. -/
theorem orderSteps_holds : Rows.OrderStepsSaid := orderSteps_over

end Go.Proofs.Ytlphmkdlacnnoaa
