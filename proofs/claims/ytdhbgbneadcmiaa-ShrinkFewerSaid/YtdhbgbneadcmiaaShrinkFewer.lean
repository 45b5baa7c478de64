/- ShrinkFewer: removing one event preserves the races of the others: for every trace and every number. -/
import Derived.Test.YtdhbgbneadcmiaaRows
import Derived.Test.YtdhbgbneadcmiaaShd
import Derived.Test.YtdhbgbneadcmiaaLawO
import Derived.Test.YtdhbgbneadcmiaaRacQ
import Derived.Test.YtdhbgbneadcmiaaOpenE
namespace Go.Proofs.Ytdhbgbneadcmiaa
open Go.ChangeShapes Go.WideShapes Go.ChangeAt Go.RowKit Go.Maps

theorem raceL_len {l : List Ev} (h : (played l).2.2 = 0) : (raceL l).length ≤ 6400 := by
  have h80 := (played_evs h).1
  have h1 := allR_len l l.length l.length
  have h2 : l.length * l.length ≤ 80 * 80 := Nat.mul_le_mul h80 h80
  unfold raceL
  omega
theorem racP_raceL (l : List Ev) : (raceL l).map prOf = racP l := allR_pr l l.length l.length
/-- The pair of two places that are still there. -/
theorem pair_kept {z : List Ev} {d i j : Nat} (hd : d < z.length) (hij : up d i < up d j) (hj : up d j < z.length) (hB : raceB z (up d i) (up d j) = true) : inB (racP (z.eraseIdx d)) ((i : Int), (j : Int)) = true := by
  have hl : (z.eraseIdx d).length = z.length - 1 := by rw [List.length_eraseIdx, if_pos hd]
  have hj2 : j < (z.eraseIdx d).length := by
    rw [hl]
    unfold up at hj
    split at hj <;> omega
  rw [inB_racP i j (up_lt.1 hij) hj2]
  exact race_erase hB
set_option maxRecDepth 100000 in
set_option maxHeartbeats 4000000 in
theorem shrinkFewer_ok (a : Option Addr) (z : List Ev) (c d : Nat) (w : World) (h : EvS w a z) (hd : d < z.length) (hp : (played z).2.2 = 0) (hq : (played (z.eraseIdx d)).2.2 = 0) :
    Calls Try.prog 8 #[.slice a z.length c, .int .i64 d] w fun e w' => e = .returned (.bool true) ∧ Below w.heap.size w w' := by
  have hmm := @run_makeMap Try.prog
  have hz80 := (played_evs hp).1
  have hm80 := (played_evs hq).1
  have hlz := raceL_len hp
  have hlm := raceL_len hq
  have hle : (z.eraseIdx d).length = z.length - 1 := erase_len hd
  have hI64 := racP_I64 hm80
  have hrp := racP_raceL (z.eraseIdx d)
  have hpk := fun i j => pair_kept (z := z) (d := d) (i := i) (j := j) hd
  have HC := Lib.hid fun W (hW : EvS W a z) => without_ok z z.length d rfl hd a c W hW hp hq
  have HA := Lib.hid fun W (hW : EvS W a z) => all_ok z a c W hW hp
  have HA2 := Lib.hid fun (a : Option Addr) (c : Nat) (W : World) (hW : EvS W a (z.eraseIdx d)) => all_ok (z.eraseIdx d) a c W hW hq
  have HLE := Lib.hid hle
  have HI := Lib.hid hI64
  have HRP := Lib.hid hrp
  have HPK := Lib.hid hpk
  have hmem := fun (k : Nat) (hk : k < (raceL z).length) => mem_raceL.1 (List.getElem_mem hk)
  have HMEM := Lib.hid hmem
  clear hp hq hle hI64 hrp hpk hmem
  generalize z.eraseIdx d = m at *
  generalize raceL m = LM at *
  generalize raceL z = LZ at *
  go_enter Try.func8, Try.ntmps8
  go_wp2_with fail
  refine (shrunk_any _).mono ?_
  rintro r w1 ⟨rfl, hb⟩
  go_wp2_with fail
  refine (HC.out _ (h.below hb)).mono ?_
  rintro r w2 ⟨a2, c2, rfl, hS, hk⟩
  replace hb := hb.trans (hk.mono hb.size)
  clear hk HC
  go_wp2_with fail
  refine (HA.out _ (h.below hb)).mono ?_
  rintro r w3 ⟨v, rfl, hown, hk⟩
  replace hb := hb.trans (hk.mono hb.size)
  replace hS := hS.below hk
  have hex : ∃ a3 c3, v = .slice a3 LZ.length c3 ∧ RcS w3 a3 LZ := rcS_own hown (by omega)
  obtain ⟨a3, c3, rfl, hZ⟩ := hex
  clear hk hown HA
  go_wp2_with fail
  refine (HA2.out _ _ _ hS).mono ?_
  rintro r w4 ⟨v, rfl, hown, hk⟩
  replace hb := hb.trans (hk.mono hb.size)
  replace hZ := hZ.below hk
  have hex : ∃ a4 c4, v = .slice a4 LM.length c4 ∧ RcS w4 a4 LM := rcS_own hown (by omega)
  obtain ⟨a4, c4, rfl, hM⟩ := hex
  clear hk hown HA2 hS h
  have hD := MapP.made w4
  have hb4 := (Below.refl w4.heap.size w4).alloc (Nat.le_refl _) (.map #[] 0)
  go_wp2
  go_loopw [43] (fun i wr => ∃ k : Nat, k ≤ LM.length ∧ i = .int .i64 k ∧ MapP wr w4.heap.size k ((LM.take k).map prOf) ∧ Below w4.heap.size w4 wr) (fun i _ => LM.length - (intOf i).toNat)
  case atStart => exact ⟨0, Nat.zero_le _, rfl, hD, hb4⟩
  case round =>
    clear hD hb4
    obtain ⟨k, hk, rfl, hD, hb4⟩ := hrel
    by_cases hlt : k < LM.length
    · obtain ⟨g, o, rfl, d0, d1, d2, d3⟩ := (hM.below hb4).at hlt
      have hx : (LM.take (k + 1)).map prOf = (LM.take k).map prOf ++ [prOf LM[k]] := by rw [List.take_add_one, List.getElem?_eq_getElem hlt, Option.toList_some, List.map_append]; rfl
      have hm2 : prOf LM[k] ∈ racP m := by rw [← HRP.out]; exact List.mem_map_of_mem (List.getElem_mem hlt)
      have hI := HI.out _ hm2
      generalize LM[k] = x at *
      have hN := Has.new wr (rcC x) 32
      have hb5 := hb4.alloc hb4.size (.cells (rcC x) 32)
      have hD5 := hD.alloc (.cells (rcC x) 32)
      have HX := Lib.hid hx
      have k0 : (0 : Int) ≤ k := by omega
      have k1 : (k : Int) < LM.length := by omega
      clear hx hm2 hb4 hD
      go_upto_region 12 with fail
      clear d0 d1 d2 d3
      generalize wr.alloc (.cells (rcC x) 32) = w5 at *
      obtain ⟨x0, x1⟩ : w5.cell? ⟨wr.heap.size, 0, none⟩ = some (.int .i64 x.a) ∧ w5.cell? ⟨wr.heap.size, 1, none⟩ = some (.int .i64 x.b) := ⟨hN.cell rfl, hN.cell rfl⟩
      obtain ⟨w6, hrun, hD6, hg6⟩ := MapP.put (S := (LM.take k).map prOf) hD5 (by unfold maxLen; omega) (x.a, x.b) hI
      have hb6 := hb5.grown hg6 hb5.size (fun q hq => by cases hq; exact Nat.le_refl _)
      clear hN hD5 hb5 hg6 hI
      go_wp2
      go_roundw
      case rel => exact ⟨k + 1, by omega, by go_num, by rw [HX.out]; exact hD6, hb6⟩
      case measure => (simp [intOf]; try omega)
    · obtain rfl : k = LM.length := by omega
      rw [List.take_length, HRP.out] at hD
      have hb5 := hb.trans (hb4.mono hb.size)
      have hZ5 := hZ.below hb4
      have hbw := hb4.size
      have hmb := World.ownsMap.lt hD
      clear hb hZ hM HRP hb4 hlt hk
      generalize w4.heap.size = b at *
      generalize wr = w6 at *
      have hI := Below.refl w6.heap.size w6
      go_wp2
      go_loopw [56] (fun i wr => ∃ k : Nat, k ≤ LZ.length ∧ i = .int .i64 k ∧ Below w6.heap.size w6 wr) (fun i _ => LZ.length - (intOf i).toNat)
      case atStart => exact ⟨0, Nat.zero_le _, rfl, hI⟩
      case round =>
        clear hI
        obtain ⟨k, hk, rfl, hb6⟩ := hrel
        by_cases hlt : k < LZ.length
        · obtain ⟨g, o, rfl, d0, d1, d2, d3⟩ := (hZ5.below hb6).at hlt
          obtain ⟨i, j, hx, hij, hj, hB⟩ := HMEM.out k hlt
          rw [hx] at d0 d1 d2 d3
          simp only [raceOf] at d0 d1 d2 d3
          have hHB := Lib.hid hB
          have k0 : (0 : Int) ≤ k := by omega
          have k1 : (k : Int) < LZ.length := by omega
          generalize (evAt z i).o = V at *
          generalize kindR (evAt z i) (evAt z j) = K at *
          have hN := Has.new wr (rcC ⟨i, j, V, K⟩) 32
          have hb7 := hb6.alloc hb6.size (.cells (rcC ⟨i, j, V, K⟩) 32)
          clear hx hB
          go_upto_region 17 with fail
          clear d0 d1 d2 d3
          obtain ⟨x0, x1⟩ : (wr.alloc (.cells (rcC ⟨i, j, V, K⟩) 32)).cell? ⟨wr.heap.size, 0, none⟩ = some (.int .i64 (i : Int)) ∧ (wr.alloc (.cells (rcC ⟨i, j, V, K⟩) 32)).cell? ⟨wr.heap.size, 1, none⟩ = some (.int .i64 (j : Int)) := ⟨hN.cell rfl, hN.cell rfl⟩
          generalize wr.alloc (.cells (rcC ⟨i, j, V, K⟩) 32) = w7 at *
          have HLK := Lib.hid fun (i' j' : Nat) (W : World) (hW : Below w6.heap.size w6 W) (e1 : up d i' = i) (e2 : up d j' = j) => show (Instr.lookup 43 (.map (some b)) (.agg #[.int .i64 (i' : Int), .int .i64 (j' : Int)]) false).run Try.prog W = .ok (.bool true) W by
            have hDW : MapP W b LM.length (racP m) := MapP.below hD hW
            have g1 : i' ≤ i := by unfold up at e1; split at e1 <;> omega
            have g2 : j' ≤ j := by unfold up at e2; split at e2 <;> omega
            have h1 := MapP.look hDW HI.out ((i' : Int), (j' : Int)) ⟨⟨by simp only; omega, by simp only; omega⟩, ⟨by simp only; omega, by simp only; omega⟩⟩
            rw [HPK.out i' j' (by rw [e1, e2]; exact hij) (by rw [e2]; exact hj) (by rw [e1, e2]; exact hHB.out)] at h1
            exact h1
          by_cases ci : i = d
          · have t1 : ((i : Int) == (d : Int)) = true := by rw [beq_iff_eq]; omega
            clear hN HLK
            go_wp2
            go_roundw
            case rel => exact ⟨k + 1, by omega, by go_num, hb7⟩
            case measure => (simp [intOf]; try omega)
          · by_cases cj : j = d
            · have t1 : ((i : Int) == (d : Int)) = false := by rw [beq_eq_false_iff_ne]; omega
              have t2 : ((j : Int) == (d : Int)) = true := by rw [beq_iff_eq]; omega
              clear hN HLK
              go_wp2
              go_roundw
              case rel => exact ⟨k + 1, by omega, by go_num, hb7⟩
              case measure => (simp [intOf]; try omega)
            have t1 : ((i : Int) == (d : Int)) = false := by rw [beq_eq_false_iff_ne]; omega
            have t2 : ((j : Int) == (d : Int)) = false := by rw [beq_eq_false_iff_ne]; omega
            by_cases c1 : d < i
            · have t3 : decide (d < i) = true := decide_eq_true c1
              have t4 : decide (d < j) = true := decide_eq_true (by omega)
              obtain ⟨i', hi'⟩ : ∃ i' : Nat, (i : Int) - 1 = (i' : Int) := ⟨i - 1, by omega⟩
              obtain ⟨j', hj'⟩ : ∃ j' : Nat, (j : Int) - 1 = (j' : Int) := ⟨j - 1, by omega⟩
              have HU1 := Lib.hid (show up d i' = i by unfold up; rw [if_neg (by omega)]; omega)
              have HU2 := Lib.hid (show up d j' = j by unfold up; rw [if_neg (by omega)]; omega)
              have hw1 := IntWalk.i64_in (i' : Int) (by omega)
              have hw2 := IntWalk.i64_in (j' : Int) (by omega)
              clear hN ci cj c1
              go_upto_region 23 with fail
              have hN8 := Has.new w7 #[.int .i64 (i' : Int), .int .i64 (j' : Int)] 45
              have hb8 := hb7.alloc hb7.size (.cells #[.int .i64 (i' : Int), .int .i64 (j' : Int)] 45)
              generalize w7.alloc (.cells #[.int .i64 (i' : Int), .int .i64 (j' : Int)] 45) = w8 at *
              obtain ⟨p0, p1⟩ : w8.cell? ⟨w7.heap.size, 0, none⟩ = some (.int .i64 (i' : Int)) ∧ w8.cell? ⟨w7.heap.size, 1, none⟩ = some (.int .i64 (j' : Int)) := ⟨hN8.cell rfl, hN8.cell rfl⟩
              have hlk := HLK.out i' j' w8 hb8 HU1.out HU2.out
              clear hN8 x0 x1
              go_wp2
              go_roundw
              case rel => exact ⟨k + 1, by omega, by go_num, hb8⟩
              case measure => (simp [intOf]; try omega)

            · have t3 : decide (d < i) = false := decide_eq_false c1
              by_cases c2 : d < j
              · have t4 : decide (d < j) = true := decide_eq_true c2
                obtain ⟨j', hj'⟩ : ∃ j' : Nat, (j : Int) - 1 = (j' : Int) := ⟨j - 1, by omega⟩
                have HU1 := Lib.hid (show up d i = i by unfold up; rw [if_pos (by omega)])
                have HU2 := Lib.hid (show up d j' = j by unfold up; rw [if_neg (by omega)]; omega)
                have hw2 := IntWalk.i64_in (j' : Int) (by omega)
                clear hN ci cj c1 c2
                go_upto_region 23 with fail
                have hN8 := Has.new w7 #[.int .i64 (i : Int), .int .i64 (j' : Int)] 45
                have hb8 := hb7.alloc hb7.size (.cells #[.int .i64 (i : Int), .int .i64 (j' : Int)] 45)
                generalize w7.alloc (.cells #[.int .i64 (i : Int), .int .i64 (j' : Int)] 45) = w8 at *
                obtain ⟨p0, p1⟩ : w8.cell? ⟨w7.heap.size, 0, none⟩ = some (.int .i64 (i : Int)) ∧ w8.cell? ⟨w7.heap.size, 1, none⟩ = some (.int .i64 (j' : Int)) := ⟨hN8.cell rfl, hN8.cell rfl⟩
                have hlk := HLK.out i j' w8 hb8 HU1.out HU2.out
                clear hN8 x0 x1
                go_wp2
                go_roundw
                case rel => exact ⟨k + 1, by omega, by go_num, hb8⟩
                case measure => (simp [intOf]; try omega)

              · have t4 : decide (d < j) = false := decide_eq_false c2
                have HU1 := Lib.hid (show up d i = i by unfold up; rw [if_pos (by omega)])
                have HU2 := Lib.hid (show up d j = j by unfold up; rw [if_pos (by omega)])
                clear hN ci cj c1 c2
                go_upto_region 23 with fail
                have hN8 := Has.new w7 #[.int .i64 (i : Int), .int .i64 (j : Int)] 45
                have hb8 := hb7.alloc hb7.size (.cells #[.int .i64 (i : Int), .int .i64 (j : Int)] 45)
                generalize w7.alloc (.cells #[.int .i64 (i : Int), .int .i64 (j : Int)] 45) = w8 at *
                obtain ⟨p0, p1⟩ : w8.cell? ⟨w7.heap.size, 0, none⟩ = some (.int .i64 (i : Int)) ∧ w8.cell? ⟨w7.heap.size, 1, none⟩ = some (.int .i64 (j : Int)) := ⟨hN8.cell rfl, hN8.cell rfl⟩
                have hlk := HLK.out i j w8 hb8 HU1.out HU2.out
                clear hN8 x0 x1
                go_wp2
                go_roundw
                case rel => exact ⟨k + 1, by omega, by go_num, hb8⟩
                case measure => (simp [intOf]; try omega)

        · have hb7 := hb5.trans (hb6.mono hb5.size)
          have hml : ((m.length : Int) == (z.length : Int) - 1) = true := by rw [beq_iff_eq]; have := HLE.out; omega
          have hzw := IntWalk.i64_in ((z.length : Int) - 1) (by omega)
          go_wp2
          go_ret
          exact ⟨rfl, hb7⟩
theorem shrinkFewer_walk (a : Option Addr) (z : List Ev) (c : Nat) (n : Int) (w : World) (hf : EvS w a z ∧ z.length ≤ c ∧ z.length * 24 ≤ 140737488351232 ∧ ∀ e ∈ z, I64 e.k ∧ I64 e.t ∧ I64 e.o) (_ : I64 n) :
    Calls Try.prog 8 #[.slice a z.length c, .int .i64 n] w fun e w' => e = .returned (.bool true) ∧ Below w.heap.size w w' := by
  have h := hf.1
  clear hf
  cases hw : woOk z n
  · have HC := Lib.hid fun W (hW : EvS W a z) => without_no z z.length n rfl a c W hW hw
    clear hw
    go_enter Try.func8, Try.ntmps8
    go_wp2_with fail
    refine (shrunk_any _).mono ?_
    rintro r w1 ⟨rfl, hb⟩
    go_wp2_with fail
    refine (HC.out _ (h.below hb)).mono ?_
    rintro r w2 ⟨e, he, rfl, hk⟩
    have he2 : (e != 0) = true := by simpa using he
    replace hb := hb.trans (hk.mono hb.size)
    go_wp2
    go_ret
    exact ⟨rfl, hb⟩
  · obtain ⟨k, rfl, hk, hp, hq⟩ := woOk_at hw
    exact shrinkFewer_ok a z c k w h hk hp hq
/-! The frame of the law ShrinkFewer, by program. -/
set_option maxRecDepth 100000 in
theorem shrinkFewer_lifted (os : Os) (started : os.Started) (H : Type) (enc : TypeId × Value → H) :
    ReturnsInHanded {} Try.checked os 8 .any (Rows.shrinkFewerSpec.pre6 enc Try.prog Try.f8 Rows.shrinkFewerRow.domain false) (Rows.shrinkFewerSpec.post enc Try.prog Try.f8 false true false false) := by
  refine returnsInHanded_of_change_shaped (C := Try.checked) frame_own started (by kernel_rfl) Try.func8
    (ChangeSpec.witness6 (enc := enc) (C := Try.checked) false ⟨#[], #[.slice none 0 0, .int .i64 0], []⟩ 8 (by kernel_rfl) (by kernel_rfl) (by kernel_rfl) (by kernel_rfl)) ?_
  intro W base args ds gs before hval0 hW hcnd hsz hshaped hroom
  clear hcnd hshaped
  have hval : ∀ (j : Nat) t v, Try.f8.params[j]? = some t → args[j]? = some v → Value.okWide Try.prog W .any base t v := hval0
  have hW' := hW
  obtain ⟨p, q, hA0, hV, rfl, hfz, hnd⟩ := hW
  have hA : DataW.TrodAll enc Try.prog W 0 (fun _ => true) true Try.f8.params.toList args.toList ds p := hA0
  rw [Try.params8] at hA hval
  obtain ⟨v0, vs0, d0, ds0, p0, q0, hargs, rfl, rfl, h0, r0⟩ := trodAll_cons hA
  obtain ⟨v1, vs1, d1, ds1, p1, q1, rfl, rfl, rfl, h1, r1⟩ := trodAll_cons r0
  obtain ⟨rfl, rfl, rfl⟩ := trodAll_nil r1
  obtain rfl : args = #[v0, v1] := by cases args; simp_all
  obtain ⟨rfl, rfl⟩ := trodVars_none hV
  have k0 := h0
  have lt0 : ∀ x ∈ p0, x.block < W.heap.size := by obtain ⟨m, hm⟩ := k0; exact DataW.trod_lt m _ _ _ hm
  obtain ⟨a0, z0, c0, rfl, w0⟩ := open_evs (hval 0 22 v0 rfl rfl) h0 (fun els sp hd => sized_slice hsz (j := 0) rfl (by rw [hd]; rfl) Try.underlying22)
  have k1 := h1
  have lt1 : ∀ x ∈ p1, x.block < W.heap.size := by obtain ⟨m, hm⟩ := k1; exact DataW.trod_lt m _ _ _ hm
  obtain ⟨a1, rfl, rfl, rfl, w1⟩ := open_int Try.underlying3 (hval 1 3 v1 rfl rfl) h1
  clear hA0 hval0
  refine (shrinkFewer_walk a0 z0 c0 a1 W w0 (wf_i64 w1)).mono fun e W' ⟨he, bel⟩ => ?_
  subst he
  exact ⟨_, rfl, _, _, _, [], _, [], hW', trodAll_mk1 (shut_bool Try.underlying4 _), (trodAll_cons_mk (Below.trod frame_laid (by kernel_rfl) (of_decide_eq_true (by kernel_rfl)) k0 bel lt0) (trodAll_cons_mk (Below.trod frame_laid (by kernel_rfl) (of_decide_eq_true (by kernel_rfl)) k1 bel lt1) trodAll_mk0)), rfl, bel.frame _, fun h => by cases h⟩

theorem shrinkFewer_over : Rows.shrinkFewerRow.holds Try.pinned (OpenSpec.ofChange Rows.shrinkFewerSpec) :=
  OpenClaim.holds_of_wide 8 Try.f8 rfl rfl rfl rfl rfl rfl rfl ⟨rfl, rfl, rfl, rfl, rfl⟩ rfl rfl rfl rfl rfl (by kernel_rfl) Try.func8 (by kernel_rfl)
    (of_decide_eq_true (by kernel_rfl)) (by unfold Func.isWrapper; first | (rw [if_pos (by decide +kernel)]; kernel_rfl) | (rw [if_neg (by decide +kernel)]; exact ⟨rfl, rfl⟩))
    (fun os started H enc _ => shrinkFewer_lifted os started H enc)

/-- The statement. -/
theorem shrinkFewer_holds : Rows.ShrinkFewerSaid := shrinkFewer_over

end Go.Proofs.Ytdhbgbneadcmiaa
