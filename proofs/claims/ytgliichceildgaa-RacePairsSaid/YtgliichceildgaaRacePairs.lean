/- RacePairs: races are exactly the pairs of accesses of one variable by two threads, at least one of them a Write, that are not ordered: for every trace. -/
import Derived.Test.YtgliichceildgaaRows
import Derived.Test.YtgliichceildgaaRacB
import Derived.Test.YtgliichceildgaaRacQ
import Derived.Test.YtgliichceildgaaOpenE
import Derived.Deep.DeepCutAuto
namespace Go.Proofs.Ytgliichceildgaa
open Go.ChangeShapes Go.WideShapes Go.ChangeAt Go.RowKit Go.Maps

theorem ev_kind {e : Ev} (h : isEv e = true) : 1 ≤ e.k ∧ e.k ≤ 8 := by
  have h := of_decide_eq_true h
  rw [manyOf] at h
  split at h
  · omega
  · split at h
    · omega
    · split at h
      · omega
      · split at h <;> omega
set_option maxRecDepth 100000 in
theorem racePairs_no (a : Option Addr) (z : List Ev) (c : Nat) (w : World) (h : EvS w a z) (he : (played z).2.2 ≠ 0) :
    Calls Try.prog 3 #[.slice a z.length c] w fun e w' => e = .returned (.bool true) ∧ Below w.heap.size w w' := by
  have e2 : ((played z).2.2 != 0) = true := by simpa using he
  have hm : mayB z = false := by simpa [mayB] using he
  go_enter Try.func3, Try.ntmps3
  go_wp2_with fail
  refine (raced_any _).mono ?_
  rintro r w1 ⟨rfl, hb⟩
  go_wp2_with fail
  refine (all_err z a c _ (h.below hb) he).mono ?_
  rintro r w2 ⟨rfl, hk⟩
  replace hb := hb.trans (hk.mono hb.size)
  clear hk
  go_wp2_with fail
  refine (may_any z a c _ (h.below hb)).mono ?_
  rintro r w3 ⟨rfl, hk⟩
  rw [hm]
  go_wp2
  go_ret
  exact ⟨rfl, hb.trans (hk.mono hb.size)⟩

set_option maxRecDepth 100000 in
set_option maxHeartbeats 8000000 in
theorem racePairs_ok (a : Option Addr) (z : List Ev) (c : Nat) (w : World) (h : EvS w a z) (he : (played z).2.2 = 0) :
    Calls Try.prog 3 #[.slice a z.length c] w fun e w' => e = .returned (.bool true) ∧ Below w.heap.size w w' := by
  have hbig := h.big
  have hl80 := (played_evs he).1
  have hmm := @run_makeMap Try.prog
  have HE := Lib.hid he
  have hLl : (raceL z).length ≤ 6400 := by
    have h1 := allR_len z z.length z.length
    have h2 : z.length * z.length ≤ 80 * 80 := Nat.mul_le_mul hl80 hl80
    simp only [raceL]
    omega
  have hlen : (racP z).length = (raceL z).length := by rw [racP, ← allR_pr, List.length_map]
  have HLEN := Lib.hid hlen
  clear he hlen
  go_enter Try.func3, Try.ntmps3
  go_wp2_with fail
  refine (raced_any _).mono ?_
  rintro r w1 ⟨rfl, hb⟩
  go_wp2_with fail
  refine (all_ok z a c _ (h.below hb) HE.out).mono ?_
  rintro r w2 ⟨v, rfl, hown, hk⟩
  have hex : ∃ a2 c2, v = .slice a2 (raceL z).length c2 ∧ RcS w2 a2 (raceL z) := rcS_own hown (by omega)
  obtain ⟨a2, c2, rfl, hP⟩ := hex
  have hb2 := hb.trans (hk.mono hb.size)
  clear hk hb hown
  go_wp2_with fail
  refine (aheadMap_ok z a c _ (h.below hb2) HE.out).mono ?_
  rintro r w3 ⟨b, n, rfl, hbb, hn, hM, hk⟩
  have hb3 := hb2.trans (hk.mono hb2.size)
  replace hP := hP.below hk
  clear hk hb2
  replace h := h.below hb3
  have hMl := World.ownsMap.lt hM
  have hD := MapP.made w3
  have hb4 := (Below.refl w3.heap.size w3).alloc (Nat.le_refl _) (.map #[] 0)
  have HM := Lib.hid hM
  clear hM
  generalize hLL : raceL z = L at *
  have HLL := Lib.hid hLL
  clear hLL
  go_wp2
  go_loopw [8, 38] (fun _ i wr => ∃ k : Nat, k ≤ L.length ∧ i = .int .i64 k ∧ MapP wr w3.heap.size k ((L.take k).map prOf) ∧ Below w3.heap.size w3 wr) (fun _ i _ => L.length - (intOf i).toNat)
  case atStart => exact ⟨0, Nat.zero_le _, rfl, hD, hb4⟩
  case round =>
    clear hD hb4
    obtain ⟨k, hk, rfl, hD, hb4⟩ := hrel
    by_cases hlt : k < L.length
    · obtain ⟨b', o', rfl, d0, d1, d2, d3⟩ := (hP.below hb4).at hlt
      have hx : (L.take (k + 1)).map prOf = (L.take k).map prOf ++ [prOf L[k]] := by rw [List.take_add_one, List.getElem?_eq_getElem hlt, Option.toList_some, List.map_append]; rfl
      have hmem2 : L[k] ∈ raceL z := by rw [HLL.out]; exact List.getElem_mem hlt
      obtain ⟨i, j, hij, h1, h2, h3⟩ := mem_raceL.1 hmem2
      rw [hij] at d0 d1 d2 d3 hx
      have hil : i < z.length := by omega
      obtain ⟨p1, p2, p3, p4, p5⟩ := raceB_iff.1 h3
      have p6 : (evAt z i).t ≠ (evAt z j).t := fun e => by rw [R_dir h1 (dirE_iff.2 (.inl e))] at p4; cases p4
      have t1 : decide ((i : Int) ≥ (j : Int)) = false := by simp; omega
      have t2 : ((evAt z i).t == (evAt z j).t) = false := by simpa using p6
      have t3 : ((evAt z j).o != (evAt z i).o) = false := by simp [p3]
      have t4 : decide ((evAt z i).k > 2) = false := by simp [isAcc] at p1; simp; omega
      have t5 : decide ((evAt z j).k > 2) = false := by simp [isAcc] at p2; simp; omega
      have t6 : decide ((evAt z i).k + (evAt z j).k < 3) = false := by simp [isAcc] at p1 p2; simp; omega
      have hw : IntKind.i64.wrap ((evAt z i).k + (evAt z j).k) = (evAt z i).k + (evAt z j).k := IntWalk.i64_in _ (by simp [isAcc] at p1 p2; omega)
      have P4 := Lib.hid p4
      clear hmem2 hij h3 p1 p2 p3 p4 p5 p6
      have HX := Lib.hid hx
      clear hx
      simp only [raceOf] at d0 d1 d2 d3
      have hwr : w3.heap.size < wr.heap.size := World.ownsMap.lt hD
      generalize hkk : kindR (evAt z i) (evAt z j) = kk at *
      clear hkk
      go_wp2_with fail
      clear d0 d1 d2 d3
      have hN := Has.new wr (rcC ⟨i, j, (evAt z i).o, kk⟩) 32
      have hb5 := hb4.alloc hb4.size (.cells (rcC ⟨i, j, (evAt z i).o, kk⟩) 32)
      have hD5 := hD.alloc (.cells (rcC ⟨i, j, (evAt z i).o, kk⟩) 32)
      generalize hw4 : wr.alloc (.cells (rcC ⟨i, j, (evAt z i).o, kk⟩) 32) = w4 at *
      clear hw4
      have x0 : w4.cell? ⟨wr.heap.size, 0, none⟩ = some (.int .i64 i) := hN.cell rfl
      have x1 : w4.cell? ⟨wr.heap.size, 1, none⟩ = some (.int .i64 j) := hN.cell rfl
      have x2 : w4.cell? ⟨wr.heap.size, 2, none⟩ = some (.int .i64 (evAt z i).o) := hN.cell rfl
      obtain ⟨g, q, rfl, e0, e1, e2⟩ := (h.below hb5).at hil
      obtain ⟨g', q', hg, f0, f1, f2⟩ := (h.below hb5).at h2
      cases hg
      have hg4 : g < w4.heap.size := block_lt_of_cell e0
      have hg5 : g < w4.heap.size + 1 := by omega
      have hr4 := hN.lt
      have hr5 : wr.heap.size < w4.heap.size + 1 := by omega
      rw [← evAt_lt hil] at e0 e1 e2
      rw [← evAt_lt h2] at f0 f1 f2
      have i0 : (0 : Int) ≤ i := by omega
      have i1 : (i : Int) < z.length := by omega
      have j0 : (0 : Int) ≤ j := by omega
      have j1 : (j : Int) < z.length := by omega
      have hi64 : I64 (i : Int) := ⟨by omega, by omega⟩
      have hj64 : I64 (j : Int) := ⟨by omega, by omega⟩
      have hbu : ∀ u v : Obj, Below w3.heap.size w3 ((w4.alloc u).alloc v).drew := fun u v => ((hb5.alloc hb5.size u).alloc (by have := hb5.size; simp; omega) v).drew
      have hDu : ∀ u v : Obj, MapP ((w4.alloc u).alloc v).drew w3.heap.size k ((L.take k).map prOf) := fun u v => MapP.drewN ((hD5.alloc u).alloc v) 1
      have HBU := Lib.hid hbu
      have HDU := Lib.hid hDu
      clear hbu hDu hD5 hb5 hb4 hD
      generalize hxx : evAt z i = x at *
      generalize hyy : evAt z j = y at *
      clear hxx hyy
      have hHx : ∀ u, Has ((w4.alloc (.cells (evC x) 34)).alloc u).drew w4.heap.size (evC x) 34 := fun u => ((Has.new w4 (evC x) 34).alloc u).drew
      have hHy : ∀ u, Has ((w4.alloc (.cells (evC y) 34)).alloc u).drew w4.heap.size (evC y) 34 := fun u => ((Has.new w4 (evC y) 34).alloc u).drew
      have hIx : ∀ u, Has ((w4.alloc u).alloc (.cells (evC x) 34)).drew (w4.heap.size + 1) (evC x) 34 := fun u => ((Has.new (w4.alloc u) (evC x) 34).at (by simp)).drew
      have hIy : ∀ u, Has ((w4.alloc u).alloc (.cells (evC y) 34)).drew (w4.heap.size + 1) (evC y) 34 := fun u => ((Has.new (w4.alloc u) (evC y) 34).at (by simp)).drew
      go_cut [9, 10] (fun p q wx => ∃ B C : Nat, p = .pointer (some ⟨B, 0, none⟩) ∧ q = .pointer (some ⟨C, 0, none⟩) ∧ Has wx B (evC x) 34 ∧ Has wx C (evC y) 34 ∧ Has wx wr.heap.size (rcC ⟨i, j, x.o, kk⟩) 32 ∧ MapP wx w3.heap.size k ((L.take k).map prOf) ∧ Below w3.heap.size w3 wx)
      case first =>
        go_region
        all_goals
          go_wp2
          go_meet
        · exact ⟨_, _, rfl, rfl, hHx _, hIy _, ((hN.alloc _).alloc _).drew, HDU.out _ _, HBU.out _ _⟩
        · exact ⟨_, _, rfl, rfl, hIx _, hHy _, ((hN.alloc _).alloc _).drew, HDU.out _ _, HBU.out _ _⟩
      case rest =>
        obtain ⟨B, C, rfl, rfl, hX, hY, hR, hDc, hbc⟩ := hcut
        clear hHx hHy hIx hIy e0 e1 e2 f0 f1 f2 x0 x1 x2 hN hg4 hg5 hr4 hr5 HDU HBU i0 i1 j0 j1
        have hq1 := (HM.out.below hbc).look1 hl80 i j hil h2
        rw [P4.out] at hq1
        obtain ⟨c0, c1, c2⟩ : wc.cell? ⟨B, 0, none⟩ = some (.int .i64 x.k) ∧ wc.cell? ⟨B, 1, none⟩ = some (.int .i64 x.t) ∧ wc.cell? ⟨B, 2, none⟩ = some (.int .i64 x.o) := ⟨hX.cell rfl, hX.cell rfl, hX.cell rfl⟩
        obtain ⟨d0, d1, d2⟩ : wc.cell? ⟨C, 0, none⟩ = some (.int .i64 y.k) ∧ wc.cell? ⟨C, 1, none⟩ = some (.int .i64 y.t) ∧ wc.cell? ⟨C, 2, none⟩ = some (.int .i64 y.o) := ⟨hY.cell rfl, hY.cell rfl, hY.cell rfl⟩
        obtain ⟨e0, e1, e2⟩ : wc.cell? ⟨wr.heap.size, 0, none⟩ = some (.int .i64 i) ∧ wc.cell? ⟨wr.heap.size, 1, none⟩ = some (.int .i64 j) ∧ wc.cell? ⟨wr.heap.size, 2, none⟩ = some (.int .i64 x.o) := ⟨hR.cell rfl, hR.cell rfl, hR.cell rfl⟩
        clear hX hY hR
        go_wp2_with (first | (at_mapUpdate; refine wpList_mapUpdate_own _ rfl _ _ _ 29 rfl 36 4 pr_keyed Try.underlying29 _ w3.heap.size k (prD ((L.take k).map prOf)) rfl hDc (by unfold maxLen; omega) _ _ (prKey ((i : Int), (j : Int))) rfl rfl (keyOf_pr ((i : Int), (j : Int)) hi64 hj64) (.lit (.bool true)) [] (plainElem_bool Try.underlying4 true) ?_; intro w7 hM7 hg7) | go_in)
        go_wp2
        go_roundw
        case rel => exact ⟨k + 1, by omega, by go_num, by rw [HX.out, MapP, prD_snoc]; exact hM7, hbc.grown hg7 hbc.size (fun j hj => by cases hj; exact Nat.le_refl _)⟩
        case measure => (simp [intOf]; try omega)
    · obtain rfl : k = L.length := by omega
      rw [List.take_length] at hD
      have hL2 : L.map prOf = racP z := by rw [← HLL.out, racP, ← allR_pr]
      rw [hL2] at hD
      clear hL2
      have hs := size_prD (racP z) (racP_I64 hl80) (allP_nodup _ _ _).1
      rw [HLEN.out] at hs
      have hevs := (played_evs HE.out).2
      obtain ⟨w4, rfl⟩ : ∃ w4 : World, w4 = wr := ⟨_, rfl⟩
      go_wp2
      go_loopw [114] (fun i wr => ∃ m : Nat, m ≤ z.length ∧ i = .int .i64 m ∧ Below w4.heap.size w4 wr) (fun i _ => z.length - (intOf i).toNat)
      case atStart => exact ⟨0, Nat.zero_le _, rfl, Below.refl _ _⟩
      case round =>
        obtain ⟨m, hm, rfl, hb5⟩ := hrel
        by_cases hml : m < z.length
        · obtain ⟨g, q, rfl, d0, d1, d2⟩ := (h.below (hb4.trans (hb5.mono hb4.size))).at hml
          have hyy : z[m] = evAt z m := (evAt_lt hml).symm
          rw [hyy] at d0 d1 d2
          clear hyy
          have hN := Has.new wr (evC (evAt z m)) 34
          have hb6 := hb5.alloc hb5.size (.cells (evC (evAt z m)) 34)
          obtain ⟨wo, rfl⟩ : ∃ wo : World, wo = wr := ⟨_, rfl⟩
          go_wp2
          go_loopw [120] (fun i wr => ∃ n : Nat, n ≤ m ∧ i = .int .i64 n ∧ Has wr wo.heap.size (evC (evAt z m)) 34 ∧ Below w4.heap.size w4 wr) (fun i _ => m - (intOf i).toNat)
          case atStart => exact ⟨0, Nat.zero_le _, rfl, hN, hb6⟩
          case round =>
            clear hN hb6 d0 d1 d2 hb5
            obtain ⟨n, hn, rfl, hN, hb6⟩ := hrel
            by_cases hnl : n < m
            · have hnz : n < z.length := by omega
              obtain ⟨g', q', hg, f0, f1, f2⟩ := (h.below (hb4.trans (hb6.mono hb4.size))).at hnz
              cases hg
              rw [← evAt_lt hnz] at f0 f1 f2
              have n0 : (0 : Int) ≤ n := by omega
              have n1 : (n : Int) < z.length := by omega
              have hb7 := (hb6.alloc hb6.size (.cells (evC (evAt z n)) 34)).alloc (by have := hb6.size; simp; omega) (.cells (prC ((n : Int), (m : Int))) 36)
              have hN7 := (hN.alloc (.cells (evC (evAt z n)) 34)).alloc (.cells (prC ((n : Int), (m : Int))) 36)
              have hX7 := (Has.new wr (evC (evAt z n)) 34).alloc (.cells (prC ((n : Int), (m : Int))) 36)
              have hP7 := (Has.new (wr.alloc (.cells (evC (evAt z n)) 34)) (prC ((n : Int), (m : Int))) 36).at (c := wr.heap.size + 1) (by simp)
              have hq1 := (HM.out.below (hb4.trans (hb7.mono hb4.size))).look1 hl80 n m hnz hml
              have hq2 := (hD.below hb7).lookR hl80 n m hnl hml
              have hxE := hevs z[n] (List.getElem_mem hnz)
              have hyE := hevs z[m] (List.getElem_mem hml)
              rw [← evAt_lt hnz] at hxE
              rw [← evAt_lt hml] at hyE
              have xk := ev_kind hxE
              have yk := ev_kind hyE
              have hnot : ∀ q1 q2 q3 q4 q5 q6 : Bool, decide ((evAt z n).k ≤ 2) = q1 → decide ((evAt z m).k ≤ 2) = q2 → ((evAt z n).o == (evAt z m).o) = q3 → decide ((evAt z n).k + (evAt z m).k ≥ 3) = q4 → R z m n = q5 → raceB z n m = q6 → (q1 && q2 && q3 && q4 && !q5 && !q6) = false := by
                intro q1 q2 q3 q4 q5 q6 h1 h2 h3 h4 h5 h6
                rw [Bool.eq_false_iff]
                intro hh
                simp only [Bool.and_eq_true, Bool.not_eq_true'] at hh
                obtain ⟨⟨⟨⟨⟨rfl, rfl⟩, rfl⟩, rfl⟩, rfl⟩, rfl⟩ := hh
                simp only [decide_eq_true_eq, beq_iff_eq] at h1 h2 h3 h4
                have : raceB z n m = true := raceB_iff.2 ⟨by simp [isAcc]; omega, by simp [isAcc]; omega, h3, h5, by omega⟩
                rw [h6] at this
                cases this
              have hw : IntKind.i64.wrap ((evAt z n).k + (evAt z m).k) = (evAt z n).k + (evAt z m).k := IntWalk.i64_in _ (by omega)
              obtain ⟨q1, r1⟩ : ∃ q, decide ((evAt z n).k ≤ 2) = q := ⟨_, rfl⟩
              obtain ⟨q2, r2⟩ : ∃ q, decide ((evAt z m).k ≤ 2) = q := ⟨_, rfl⟩
              obtain ⟨q3, r3⟩ : ∃ q, ((evAt z n).o == (evAt z m).o) = q := ⟨_, rfl⟩
              obtain ⟨q4, r4⟩ : ∃ q, decide ((evAt z n).k + (evAt z m).k ≥ 3) = q := ⟨_, rfl⟩
              obtain ⟨q5, r5⟩ : ∃ q, R z m n = q := ⟨_, rfl⟩
              obtain ⟨q6, r6⟩ : ∃ q, raceB z n m = q := ⟨_, rfl⟩
              have hnn := hnot q1 q2 q3 q4 q5 q6 r1 r2 r3 r4 r5 r6
              rw [r5] at hq1
              rw [r6] at hq2
              clear hnot r5 r6 hxE hyE xk yk
              generalize evAt z n = x at *
              generalize evAt z m = y at *
              go_upto_region 24 with fail
              generalize wr.alloc (.cells (evC x) 34) = w8 at *
              generalize w8.alloc (.cells (prC ((n : Int), (m : Int))) 36) = w9 at *
              obtain ⟨x0, x1, x2⟩ : w9.cell? ⟨wr.heap.size, 0, none⟩ = some (.int .i64 x.k) ∧ w9.cell? ⟨wr.heap.size, 1, none⟩ = some (.int .i64 x.t) ∧ w9.cell? ⟨wr.heap.size, 2, none⟩ = some (.int .i64 x.o) := ⟨hX7.cell rfl, hX7.cell rfl, hX7.cell rfl⟩
              obtain ⟨y0, y1, y2⟩ : w9.cell? ⟨wo.heap.size, 0, none⟩ = some (.int .i64 y.k) ∧ w9.cell? ⟨wo.heap.size, 1, none⟩ = some (.int .i64 y.t) ∧ w9.cell? ⟨wo.heap.size, 2, none⟩ = some (.int .i64 y.o) := ⟨hN7.cell rfl, hN7.cell rfl, hN7.cell rfl⟩
              obtain ⟨p0, p1⟩ : w9.cell? ⟨wr.heap.size + 1, 0, none⟩ = some (.int .i64 n) ∧ w9.cell? ⟨wr.heap.size + 1, 1, none⟩ = some (.int .i64 m) := ⟨hP7.cell rfl, hP7.cell rfl⟩
              clear hX7 hP7
              go_cut [164] (fun p wx => p = .bool false ∧ wx = w9)
              case first =>
                rcases (show q1 = false ∨ q1 = true by cases q1 <;> simp) with rfl | rfl
                · go_wp2_with fail
                  go_meet
                  exact ⟨rfl, rfl⟩
                rcases (show q2 = false ∨ q2 = true by cases q2 <;> simp) with rfl | rfl
                · go_wp2_with fail
                  go_meet
                  exact ⟨rfl, rfl⟩
                rcases (show q3 = false ∨ q3 = true by cases q3 <;> simp) with rfl | rfl
                · go_wp2_with fail
                  go_meet
                  exact ⟨rfl, rfl⟩
                rcases (show q4 = false ∨ q4 = true by cases q4 <;> simp) with rfl | rfl
                · go_wp2_with fail
                  go_meet
                  exact ⟨rfl, rfl⟩
                rcases (show q5 = true ∨ q5 = false by cases q5 <;> simp) with rfl | rfl
                · go_wp2_with fail
                  go_meet
                  exact ⟨rfl, rfl⟩
                rcases (show q6 = true ∨ q6 = false by cases q6 <;> simp) with rfl | rfl
                · go_wp2_with fail
                  go_meet
                  exact ⟨rfl, rfl⟩
                cases hnn
              case rest =>
                obtain ⟨rfl, rfl⟩ := hcut
                go_wp2
                go_roundw
                case rel => exact ⟨n + 1, by omega, by go_num, hN7, hb7⟩
                case measure => (simp [intOf]; try omega)
            · obtain rfl : n = m := by omega
              go_wp2
              go_roundw
              case rel => exact ⟨n + 1, by omega, by go_num, hb6⟩
              case measure => (simp [intOf]; try omega)
        · obtain rfl : m = z.length := by omega
          have hln := fun ty => (hD.below hb5).len Try.underlying29 ty
          rw [hs] at hln
          go_wp2
          go_ret
          exact ⟨rfl, hb3.trans ((hb4.mono hb3.size).trans (hb5.mono (by have := hb3.size; have := hb4.size; omega)))⟩

set_option maxRecDepth 100000 in
theorem racePairs_walk (a : Option Addr) (z : List Ev) (c : Nat) (w : World) (hf : EvS w a z ∧ z.length ≤ c ∧ z.length * 24 ≤ 140737488351232 ∧ ∀ e ∈ z, I64 e.k ∧ I64 e.t ∧ I64 e.o) :
    Calls Try.prog 3 #[.slice a z.length c] w fun e w' => e = .returned (.bool true) ∧ Below w.heap.size w w' := by
  by_cases hm : (played z).2.2 = 0
  · exact racePairs_ok a z c w hf.1 hm
  · exact racePairs_no a z c w hf.1 hm
/-! The frame of the law RacePairs, by program. -/
set_option maxRecDepth 100000 in
theorem racePairs_lifted (os : Os) (started : os.Started) (H : Type) (enc : TypeId × Value → H) :
    ReturnsInHanded {} Try.checked os 3 .any (Rows.racePairsSpec.pre6 enc Try.prog Try.f3 Rows.racePairsRow.domain false) (Rows.racePairsSpec.post enc Try.prog Try.f3 false true false false) := by
  refine returnsInHanded_of_change_shaped (C := Try.checked) frame_own started (by kernel_rfl) Try.func3
    (ChangeSpec.witness6 (enc := enc) (C := Try.checked) false ⟨#[], #[.slice none 0 0], []⟩ 8 (by kernel_rfl) (by kernel_rfl) (by kernel_rfl) (by kernel_rfl)) ?_
  intro W base args ds gs before hval0 hW hcnd hsz hshaped hroom
  clear hcnd hshaped
  have hval : ∀ (j : Nat) t v, Try.f3.params[j]? = some t → args[j]? = some v → Value.okWide Try.prog W .any base t v := hval0
  have hW' := hW
  obtain ⟨p, q, hA0, hV, rfl, hfz, hnd⟩ := hW
  have hA : DataW.TrodAll enc Try.prog W 0 (fun _ => true) true Try.f3.params.toList args.toList ds p := hA0
  rw [Try.params3] at hA hval
  obtain ⟨v0, vs0, d0, ds0, p0, q0, hargs, rfl, rfl, h0, r0⟩ := trodAll_cons hA
  obtain ⟨rfl, rfl, rfl⟩ := trodAll_nil r0
  obtain rfl : args = #[v0] := by cases args; simp_all
  obtain ⟨rfl, rfl⟩ := trodVars_none hV
  have k0 := h0
  have lt0 : ∀ x ∈ p0, x.block < W.heap.size := by obtain ⟨m, hm⟩ := k0; exact DataW.trod_lt m _ _ _ hm
  obtain ⟨a0, z0, c0, rfl, w0⟩ := open_evs (hval 0 22 v0 rfl rfl) h0 (fun els sp hd => sized_slice hsz (j := 0) rfl (by rw [hd]; rfl) Try.underlying22)
  clear hA0 hval0
  refine (racePairs_walk a0 z0 c0 W w0).mono fun e W' ⟨he, bel⟩ => ?_
  subst he
  exact ⟨_, rfl, _, _, _, [], _, [], hW', trodAll_mk1 (shut_bool Try.underlying4 _), (trodAll_cons_mk (Below.trod frame_laid (by kernel_rfl) (of_decide_eq_true (by kernel_rfl)) k0 bel lt0) trodAll_mk0), rfl, bel.frame _, fun h => by cases h⟩

theorem racePairs_over : Rows.racePairsRow.holds Try.pinned (OpenSpec.ofChange Rows.racePairsSpec) :=
  OpenClaim.holds_of_wide 3 Try.f3 rfl rfl rfl rfl rfl rfl rfl ⟨rfl, rfl, rfl, rfl, rfl⟩ rfl rfl rfl rfl rfl (by kernel_rfl) Try.func3 (by kernel_rfl)
    (of_decide_eq_true (by kernel_rfl)) (by unfold Func.isWrapper; first | (rw [if_pos (by decide +kernel)]; kernel_rfl) | (rw [if_neg (by decide +kernel)]; exact ⟨rfl, rfl⟩))
    (fun os started H enc _ => racePairs_lifted os started H enc)

/-- The statement. -/
theorem racePairs_holds : Rows.RacePairsSaid := racePairs_over

end Go.Proofs.Ytgliichceildgaa
