/- FastAgain: repeating a Write immediately is never flagged and changes nothing else: for every trace and every number. -/
import Derived.Test.YtgliichceildgaaRows
import Derived.Test.YtgliichceildgaaFrS
import Derived.Test.YtgliichceildgaaMA
import Derived.Test.YtgliichceildgaaEvs
import Derived.Test.YtgliichceildgaaRest
import Derived.Test.YtgliichceildgaaOpenE
import Derived.Deep.RegionLaw
import Derived.Deep.DeepCutAuto
namespace Go.Proofs.Ytgliichceildgaa
open Go.ChangeShapes Go.WideShapes Go.ChangeAt Go.RowKit

/-- The trace with one event more. -/
def more1 (z : List Ev) (k : Nat) (x : Ev) : List Ev := z.take (k + 1) ++ [x] ++ z.drop (k + 1)
theorem again_all {z : List Ev} {k : Nat} (hk : k < z.length) (h79 : z.length ≤ 79) (hm : mayB z = true) (hx : z[k].k = 2) :
    (played (more1 z k z[k])).2.2 = 0 ∧ (more1 z k z[k]).length = z.length + 1 ∧ qFlags (more1 z k z[k]) (more1 z k z[k]).length = (qFlags z z.length).map (atE fun q => if q > k then q + 1 else q) := by
  have hz : z = z.take k ++ z[k] :: z.drop (k + 1) := by
    rw [← List.drop_eq_getElem_cons hk, List.take_append_drop]
  have hM : more1 z k z[k] = z.take k ++ z[k] :: z[k] :: z.drop (k + 1) := by
    unfold more1
    rw [List.take_add_one, List.getElem?_eq_getElem hk, Option.toList_some, List.append_assoc, List.append_assoc]
    rfl
  have hl : (z.take k).length = k := by simp; omega
  have hlen : (more1 z k z[k]).length = z.length + 1 := by rw [hM]; simp; omega
  refine ⟨?_, hlen, ?_⟩
  · refine mayB_played (mayB_iff.2 ⟨by omega, ?_⟩)
    rw [hM]
    refine playL_again _ _ _ hx _ _ ?_
    rw [← hz]
    exact (mayB_iff.1 hm).2
  · have := qFlags_again (z.take k) (z.drop (k + 1)) z[k] hx
    rw [← hM, ← hz, hl] at this
    exact this
theorem atE_gt {k : Nat} {x : Ev} (h : x.k > k) : atE (fun q => if q > k then q + 1 else q) x = ⟨x.k + 1, x.t, x.o⟩ := by simp [atE, h]
theorem atE_le {k : Nat} {x : Ev} (h : ¬ x.k > k) : atE (fun q => if q > k then q + 1 else q) x = x := by simp [atE, h]

set_option maxRecDepth 100000 in
theorem fastAgain_no (a : Option Addr) (z : List Ev) (c : Nat) (n : Int) (w : World) (h : EvS w a z) (hm : mayB z = false ∨ z.length = 0 ∨ 79 < z.length) :
    Calls Try.prog 10 #[.slice a z.length c, .int .i64 n] w fun e w' => e = .returned (.bool true) ∧ Below w.heap.size w w' := by
  have HM := Lib.hid hm
  clear hm
  go_enter Try.func10, Try.ntmps10
  go_wp2_with fail
  refine (fasted_any _).mono ?_
  rintro r w1 ⟨rfl, hb⟩
  go_wp2_with fail
  refine (may_any z a c _ (h.below hb)).mono ?_
  rintro r w2 ⟨rfl, hk⟩
  obtain ⟨p, hp⟩ : ∃ q, mayB z = q := ⟨_, rfl⟩
  obtain ⟨q1, hq1⟩ : ∃ q, ((z.length : Int) == 0) = q := ⟨_, rfl⟩
  obtain ⟨q2, hq2⟩ : ∃ q, decide ((z.length : Int) > 79) = q := ⟨_, rfl⟩
  have hq : p = false ∨ q1 = true ∨ q2 = true := by
    rcases HM.out with e | e | e
    · exact .inl (hp.symm.trans e)
    · right; left; rw [← hq1, e]; rfl
    · right; right; rw [← hq2]; exact decide_eq_true (by omega)
  rw [hp]
  clear hp
  have hb2 := hb.trans (hk.mono hb.size)
  cases p
  · go_wp2
    go_ret
    exact ⟨rfl, hb2⟩
  · cases q1
    · cases q2
      · simp at hq
      · clear hq
        go_wp2
        go_ret
        exact ⟨rfl, hb2⟩
    · clear hq
      go_wp2
      go_ret
      exact ⟨rfl, hb2⟩

set_option maxRecDepth 100000 in
set_option maxHeartbeats 8000000 in
theorem fastAgain_ok (b o : Nat) (z : List Ev) (c : Nat) (n : Int) (w : World) (h : EvS w (some ⟨b, o, none⟩) z) (hc : z.length ≤ c) (hm : mayB z = true) (hz : 0 < z.length) (h79 : z.length ≤ 79) :
    Calls Try.prog 10 #[.slice (some ⟨b, o, none⟩) z.length c, .int .i64 n] w fun e w' => e = .returned (.bool true) ∧ Below w.heap.size w w' := by
  have hbig := h.big
  obtain ⟨i0, hi, hz0, hz1, hz2⟩ := info_parts infoE
  have q0 := Int.emod_nonneg n (show (z.length : Int) ≠ 0 by omega)
  have q1 := Int.emod_lt_of_pos n (show 0 < (z.length : Int) by omega)
  obtain ⟨k, hk⟩ := Int.eq_ofNat_of_zero_le q0
  have hkz : k < z.length := by rw [hk] at q1; exact Int.ofNat_lt.1 q1
  have hfl := qFlags_len z z.length
  have HG := Lib.hid (again_all hkz h79 hm)
  have HE := Lib.hid (mayB_played hm)
  have HM := Lib.hid hm
  have HK := Lib.hid hk
  have HNE := Lib.hid neq_fl
  clear hk q0 q1 hm
  have hz' : ((z.length : Int) == 0) = false := beq_eq_false_iff_ne.2 (by omega)
  have hz79 : decide ((z.length : Int) > 79) = false := decide_eq_false (by omega)
  go_enter Try.func10, Try.ntmps10
  go_wp2_with fail
  refine (fasted_any _).mono ?_
  rintro r w1 ⟨rfl, hb⟩
  go_wp2_with fail
  refine (may_any z _ c _ (h.below hb)).mono ?_
  rintro r w2 ⟨rfl, hk⟩
  rw [HM.out]
  replace hb := hb.trans (hk.mono hb.size)
  replace h := h.below hb
  clear hk
  go_wp2_with fail
  refine (rest_any n _ _ (by omega) (by omega)).mono ?_
  rintro r w3 ⟨rfl, rfl⟩
  rw [HK.out]
  obtain ⟨b', o', hbo, d0, d1, d2⟩ := h.at hkz
  cases hbo
  have hk0 : (0 : Int) ≤ k := by omega
  have hkz' : (k : Int) < z.length := by omega
  by_cases hx2 : z[k].k = 2
  · have hkn : (z[k].k != 2) = false := by rw [hx2]; rfl
    obtain ⟨hg1, hg2, hg3⟩ := HG.out hx2
    have HG1 := Lib.hid hg1
    have HG3 := Lib.hid hg3
    have hmm : more1 z k z[k] = z.take (k + 1) ++ [z[k]] ++ z.drop (k + 1) := rfl
    have hat : ∀ W, EvS W (some ⟨b, o, none⟩) z → W.cell? ⟨b, o + k * 3, none⟩ = some (.int .i64 z[k].k) ∧ W.cell? ⟨b, o + k * 3 + 1, none⟩ = some (.int .i64 z[k].t) ∧ W.cell? ⟨b, o + k * 3 + 2, none⟩ = some (.int .i64 z[k].o) := by
      intro W hW
      obtain ⟨b', o', hbo, d0, d1, d2⟩ := hW.at hkz
      cases hbo
      exact ⟨d0, d1, d2⟩
    clear HG hx2 hg1 hg3
    generalize z[k] = x at *
    have HMM := Lib.hid hmm
    have HAT := Lib.hid hat
    clear hmm hat
    generalize more1 z k x = M at *
    go_wp2_with fail
    refine (fastRun_ok z _ c _ h HE.out).mono ?_
    rintro r w4 ⟨v1, rfl, hown1, hk⟩
    generalize hA : qFlags z z.length = A at *
    have hex : ∃ a2 c2, v1 = .slice a2 A.length c2 ∧ EvS w4 a2 A := by
      obtain ⟨a, c, h1, h2, _⟩ := evS_own hown1 (by omega)
      exact ⟨a, c, h1, h2⟩
    obtain ⟨a1, c1, rfl, hAS⟩ := hex
    have HA := Lib.hid hA
    obtain ⟨B, hBd⟩ : ∃ B, B = A.map (atE fun q => if q > k then q + 1 else q) := ⟨_, rfl⟩
    have hB : qFlags M M.length = B := HG3.out.trans hBd.symm
    have HB := Lib.hid hB
    replace hb := hb.trans (hk.mono hb.size)
    replace h := h.below hk
    have hBk : ∀ i (hi : i < A.length) (hi' : i < B.length), B[i] = atE (fun q => if q > k then q + 1 else q) A[i] := fun i hi hi' => by subst hBd; simp
    have hBl : B.length = A.length := by rw [hBd]; simp
    have HBK := Lib.hid hBk
    clear hBk hBd
    clear hA hB hk hown1 HG3 d0 d1 d2
    obtain ⟨d0, d1, d2⟩ := HAT.out _ h
    have hw := IntWalk.i64_in ((k : Int) + 1) (by omega)
    have hk1 : (0 : Int) ≤ (k : Int) + 1 := by omega
    have hkc1 : (k : Int) + 1 ≤ c := by omega
    have hkz2 : (k : Int) + 1 ≤ z.length := by omega
    have hkc : (k : Int) ≤ c := by omega
    have hzc : (z.length : Int) ≤ c := by omega
    have S1 := ((h.take (k + 1)).src).below (Below.refl _ _).drew
    have S3 := (h.tail (k + 1) c hc).src
    have hl1 : (z.take (k + 1)).length = k + 1 := by simp; omega
    have hl2 : (z.drop (k + 1)).length = z.length - (k + 1) := by simp
    rw [hl1] at S1
    rw [hl2] at S3
    have hbl : b < w4.heap.size := block_lt_of_cell d0
    have hbl1 : b < w4.heap.size + 1 := by omega
    have HBL := Lib.hid hBl
    clear hl1 hl2 hBl
    go_upto_region 9 with fail
    go_cut [7, 8] (fun v e wz => e = .int .i64 0 ∧ ∃ a c, v = .slice a B.length c ∧ EvS wz a B ∧ Below w4.heap.size w4 wz)
    case first =>
      go_region_law (first
      | (refine app_step _ rfl (.const (.slice none 0 0)) (.tmp 45) 22 rfl Try.underlying22 hi hz0 hz1 hz2 rfl (by decide) (v := .slice none 0 0) (n := 0) (xs := []) rfl (World.ownsRow_nil _ w4.heap.size _ _) (A := some ⟨b, o, none⟩) (m := k + 1) (c := c) (news := evL (z.take (k + 1))) (by simp [go_sem]) (by first | exact S1 | exact S1.below ((Below.refl _ _).alloc (Nat.le_refl _) _)) (evL_one _) (by unfold maxLen; omega) (by omega) (by simp) ?_; intro v1 u1 hA1; have hu1 : Below w4.heap.size w4 u1 := (by first | exact (Below.refl _ _).drew.trans hA1.fresh | exact ((Below.refl _ _).drew.alloc (by simp) _).trans (hA1.fresh.mono (by simp))); obtain ⟨e0, e1, e2⟩ := HAT.out _ (h.below hu1); have hbl2 : b < u1.heap.size := Nat.lt_of_lt_of_le hbl hu1.size; have hbl3 : b < u1.heap.size + 1 := by omega)
      | (refine app_step _ rfl (.tmp 46) (.tmp 51) 22 rfl Try.underlying22 hi hz0 hz1 hz2 rfl (by decide) (by conv => lhs; simp [go_sem]) (by first | exact hA1.own | exact hA1.own.alloc _) (by conv => lhs; simp [go_sem]) (by first | exact (evS_full (l := [x]) (Has.new u1 (evC x) 34) rfl (by simp)).src | exact ((evS_full (l := [x]) (Has.new w4.drew (evC x) 34) rfl (by simp)).below hA1.fresh).src) (evL_one _) (by unfold maxLen; simp; omega) (by simp; omega) (by have := hA1.grown.size; simp at this ⊢; omega) ?_; intro v2 u2 hA2; have hu2 : Below w4.heap.size w4 u2 := by first | exact hA2.below hA1.own hu1 hu1.size | exact hA2.below (hA1.own.alloc _) (hu1.alloc hu1.size _) (by simp; have := hu1.size; omega))
      | (refine app_step _ rfl (.tmp 52) (.tmp 56) 22 rfl Try.underlying22 hi hz0 hz1 hz2 rfl (by decide) (by conv => lhs; simp [go_sem]) hA2.own (news := evL (z.drop (k + 1))) (by conv => lhs; simp [go_sem]) (by exact S3.below hu2) (evL_one _) (by unfold maxLen; simp; omega) (by simp; omega) (by exact hu2.size) ?_; intro v3 u3 hA3; have hu3 : Below w4.heap.size w4 u3 := hA3.below hA2.own hu2 hu2.size)
      | (go_simp; go_at_call 27; obtain ⟨a', c', hv, hS⟩ := hA3.evs (l := M) (by rw [HMM.out, evL_append, evL_append]; rfl) (by rw [HMM.out]; simp; omega) (by omega); rw [hv]; refine (fastRun_ok M a' c' _ hS HG1.out).mono ?_; rintro r u4 ⟨v4, rfl, hown4, hk4⟩))
      all_goals
        have hu4 := hu3.trans (hk4.mono hu3.size)
        rw [HB.out] at hown4
        have hex : ∃ a2 c2, v4 = .slice a2 B.length c2 ∧ EvS u4 a2 B := by
          obtain ⟨a, c, h1, h2, _⟩ := evS_own hown4 (by rw [HBL.out]; omega)
          exact ⟨a, c, h1, h2⟩
        obtain ⟨a2, c2, rfl, hBS⟩ := hex
        clear hu1 hu2 hu3 hk4 hA1 hA2 hA3 hv hS S1 S3 e0 e1 e2 hown4
        generalize (if c = k + 1 then (some ⟨b, o, none⟩ : Option Addr) else some ⟨b, o + (k + 1) * 3, none⟩) = A2
        go_wp2
        go_meet
        exact ⟨rfl, _, _, rfl, hBS, hu4⟩
    case rest =>
      obtain ⟨rfl, a2, c2, rfl, hBS, hk4⟩ := hcut
      replace hAS := hAS.below hk4
      replace hb := hb.trans (hk4.mono hb.size)
      have hll : ((A.length : Int) != (B.length : Int)) = false := by rw [HBL.out]; simp
      clear h hk4 S1 S3 d0 d1 d2 hw hk1 hkc1 hkz2 hkc hzc hbl hbl1
      have hb5 := Below.refl wc.heap.size wc
      go_wp2
      go_loopw [76] (fun i wr => ∃ m : Nat, m ≤ A.length ∧ i = .int .i64 m ∧ Below wc.heap.size wc wr) (fun i _ => A.length - (intOf i).toNat)
      case atStart => exact ⟨0, Nat.zero_le _, rfl, hb5⟩
      case round =>
        clear hb5
        obtain ⟨m, hm, rfl, hb5⟩ := hrel
        by_cases hlt : m < A.length
        · have hltB : m < B.length := by rw [HBL.out]; exact hlt
          obtain ⟨b1, o1, rfl, e0, e1, e2⟩ := (hAS.below hb5).at hlt
          obtain ⟨b2, o2, rfl, f0, f1, f2⟩ := (hBS.below hb5).at hltB
          have hxy := HBK.out m hlt hltB
          have hx80 : 0 ≤ (A[m]).k ∧ (A[m]).k < 80 := by
            have := qFlags_lt z z.length A[m] (by rw [HA.out]; exact List.getElem_mem hlt)
            omega
          have m0 : (0 : Int) ≤ m := by omega
          have m1 : (m : Int) < B.length := by omega
          have hbat : ∀ W, EvS W (some ⟨b2, o2, none⟩) B → W.cell? ⟨b2, o2 + m * 3, none⟩ = some (.int .i64 B[m].k) ∧ W.cell? ⟨b2, o2 + m * 3 + 1, none⟩ = some (.int .i64 B[m].t) ∧ W.cell? ⟨b2, o2 + m * 3 + 2, none⟩ = some (.int .i64 B[m].o) := by
            intro W hW
            obtain ⟨b', o', hbo, d0, d1, d2⟩ := hW.at hltB
            cases hbo
            exact ⟨d0, d1, d2⟩
          have HBAT := Lib.hid hbat
          clear hbat
          generalize A[m] = y at *
          generalize B[m] = y' at *
          have hN := Has.new wr (evC y) 46
          have hb6 := hb5.alloc hb5.size (.cells (evC y) 46)
          by_cases hgt : y.k > k
          · have hgd : decide (y.k > (k : Int)) = true := decide_eq_true hgt
            have hw := IntWalk.i64_in (y.k + 1) (by omega)
            rw [atE_gt hgt] at hxy
            have HXY := Lib.hid hxy
            clear hxy hgt
            go_upto_region 17 with fail
            have hN7 : Has (wr.alloc (.cells (evC ⟨y.k + 1, y.t, y.o⟩) 46)) wr.heap.size (evC y') 46 := (Has.new wr (evC ⟨y.k + 1, y.t, y.o⟩) _).to (by rw [HXY.out])
            have hb7 : Below wc.heap.size wc (wr.alloc (.cells (evC ⟨y.k + 1, y.t, y.o⟩) 46)) := hb5.alloc hb5.size _
            clear hN hb6 e0 e1 e2 f0 f1 f2
            generalize wr.alloc (.cells (evC ⟨y.k + 1, y.t, y.o⟩) 46) = w7 at *
            obtain ⟨f0, f1, f2⟩ := HBAT.out _ (hBS.below hb7)
            have n0 : w7.cell? ⟨wr.heap.size, 0, none⟩ = some (.int .i64 y'.k) := hN7.cell rfl
            have n1 : w7.cell? ⟨wr.heap.size, 1, none⟩ = some (.int .i64 y'.t) := hN7.cell rfl
            have n2 : w7.cell? ⟨wr.heap.size, 2, none⟩ = some (.int .i64 y'.o) := hN7.cell rfl
            have hq : ∀ W, (binOp .neq 46 (evV y') (evV y')).run Try.prog W = .ok (.bool false) W := fun W => by rw [HNE.out]; simp
            go_wp2
            go_quiet (fail)
            go_wp2
            go_roundw
            case rel => exact ⟨m + 1, by omega, by go_num, below_drewN hb7 _⟩
            case measure => (simp [intOf]; try omega)
          · have hgd : decide (y.k > (k : Int)) = false := decide_eq_false hgt
            rw [atE_le hgt] at hxy
            subst hxy
            clear hgt
            go_upto_region 17 with fail
            have hb7 := hb6
            have hN7 := hN
            clear hN hb6 e0 e1 e2 f0 f1 f2
            generalize wr.alloc (.cells (evC y') 46) = w7 at *
            obtain ⟨f0, f1, f2⟩ := HBAT.out _ (hBS.below hb7)
            have n0 : w7.cell? ⟨wr.heap.size, 0, none⟩ = some (.int .i64 y'.k) := hN7.cell rfl
            have n1 : w7.cell? ⟨wr.heap.size, 1, none⟩ = some (.int .i64 y'.t) := hN7.cell rfl
            have n2 : w7.cell? ⟨wr.heap.size, 2, none⟩ = some (.int .i64 y'.o) := hN7.cell rfl
            have hq : ∀ W, (binOp .neq 46 (evV y') (evV y')).run Try.prog W = .ok (.bool false) W := fun W => by rw [HNE.out]; simp
            go_wp2
            go_quiet (fail)
            go_wp2
            go_roundw
            case rel => exact ⟨m + 1, by omega, by go_num, below_drewN hb7 _⟩
            case measure => (simp [intOf]; try omega)
        · obtain rfl : m = A.length := by omega
          go_wp2
          go_ret
          exact ⟨rfl, hb.trans (hb5.mono hb.size)⟩
  · have hkn : (z[k].k != 2) = true := by simpa using hx2
    clear hx2 HG
    go_wp2
    go_ret
    exact ⟨rfl, hb⟩
theorem fastAgain_walk (a : Option Addr) (z : List Ev) (c : Nat) (n : Int) (w : World) (h : EvS w a z ∧ z.length ≤ c ∧ z.length * 24 ≤ 140737488351232 ∧ ∀ e ∈ z, I64 e.k ∧ I64 e.t ∧ I64 e.o) (_ : I64 n) :
    Calls Try.prog 10 #[.slice a z.length c, .int .i64 n] w fun e w' => e = .returned (.bool true) ∧ Below w.heap.size w w' := by
  by_cases hm : mayB z = true
  · by_cases hz : 0 < z.length
    · by_cases h79 : z.length ≤ 79
      · obtain ⟨b, o, rfl⟩ : ∃ b o, a = some ⟨b, o, none⟩ := by
          rcases h.1.ok with h0 | ⟨b, o, ha, _⟩
          · rw [h0] at hz; exact absurd hz (by simp)
          · exact ⟨b, o, ha⟩
        exact fastAgain_ok b o z c n w h.1 h.2.1 hm hz h79
      · exact fastAgain_no a z c n w h.1 (.inr (.inr (by omega)))
    · exact fastAgain_no a z c n w h.1 (.inr (.inl (by omega)))
  · exact fastAgain_no a z c n w h.1 (.inl (by simpa using hm))
/-! The frame of the law FastAgain, by program. -/
set_option maxRecDepth 100000 in
theorem fastAgain_lifted (os : Os) (started : os.Started) (H : Type) (enc : TypeId × Value → H) :
    ReturnsInHanded {} Try.checked os 10 .any (Rows.fastAgainSpec.pre6 enc Try.prog Try.f10 Rows.fastAgainRow.domain false) (Rows.fastAgainSpec.post enc Try.prog Try.f10 false true false false) := by
  refine returnsInHanded_of_change_shaped (C := Try.checked) frame_own started (by kernel_rfl) Try.func10
    (ChangeSpec.witness6 (enc := enc) (C := Try.checked) false ⟨#[], #[.slice none 0 0, .int .i64 0], []⟩ 8 (by kernel_rfl) (by kernel_rfl) (by kernel_rfl) (by kernel_rfl)) ?_
  intro W base args ds gs before hval0 hW hcnd hsz hshaped hroom
  clear hcnd hshaped
  have hval : ∀ (j : Nat) t v, Try.f10.params[j]? = some t → args[j]? = some v → Value.okWide Try.prog W .any base t v := hval0
  have hW' := hW
  obtain ⟨p, q, hA0, hV, rfl, hfz, hnd⟩ := hW
  have hA : DataW.TrodAll enc Try.prog W 0 (fun _ => true) true Try.f10.params.toList args.toList ds p := hA0
  rw [Try.params10] at hA hval
  obtain ⟨v0, vs0, d0, ds0, p0, q0, hargs, rfl, rfl, h0, r0⟩ := trodAll_cons hA
  obtain ⟨v1, vs1, d1, ds1, p1, q1, rfl, rfl, rfl, h1, r1⟩ := trodAll_cons r0
  obtain ⟨rfl, rfl, rfl⟩ := trodAll_nil r1
  obtain rfl : args = #[v0, v1] := by cases args; simp_all
  obtain ⟨rfl, rfl⟩ := trodVars_none hV
  have k0 := h0
  have lt0 : ∀ x ∈ p0, x.block < W.heap.size := by obtain ⟨m, hm⟩ := k0; exact DataW.trod_lt m _ _ _ hm
  obtain ⟨a0, z0, c0, rfl, w0⟩ := open_evs (hval 0 22 v0 rfl rfl) h0 (fun els sp hd => sized_slice hsz (j := 0) rfl (by rw [hd]; rfl) Try.underlying22)
  have k1 := h1
  have lt1 : ∀ x ∈ p1, x.block < W.heap.size := by obtain ⟨m, hm⟩ := k1; exact DataW.trod_lt m _ _ _ hm
  obtain ⟨a1, rfl, rfl, rfl, w1⟩ := open_int Try.underlying3 (hval 1 3 v1 rfl rfl) h1
  clear hA0 hval0
  refine (fastAgain_walk a0 z0 c0 a1 W w0 (wf_i64 w1)).mono fun e W' ⟨he, bel⟩ => ?_
  subst he
  exact ⟨_, rfl, _, _, _, [], _, [], hW', trodAll_mk1 (shut_bool Try.underlying4 _), (trodAll_cons_mk (Below.trod frame_laid (by kernel_rfl) (of_decide_eq_true (by kernel_rfl)) k0 bel lt0) (trodAll_cons_mk (Below.trod frame_laid (by kernel_rfl) (of_decide_eq_true (by kernel_rfl)) k1 bel lt1) trodAll_mk0)), rfl, bel.frame _, fun h => by cases h⟩

theorem fastAgain_over : Rows.fastAgainRow.holds Try.pinned (OpenSpec.ofChange Rows.fastAgainSpec) :=
  OpenClaim.holds_of_wide 10 Try.f10 rfl rfl rfl rfl rfl rfl rfl ⟨rfl, rfl, rfl, rfl, rfl⟩ rfl rfl rfl rfl rfl (by kernel_rfl) Try.func10 (by kernel_rfl)
    (of_decide_eq_true (by kernel_rfl)) (by unfold Func.isWrapper; first | (rw [if_pos (by decide +kernel)]; kernel_rfl) | (rw [if_neg (by decide +kernel)]; exact ⟨rfl, rfl⟩))
    (fun os started H enc _ => fastAgain_lifted os started H enc)

/-- The statement. -/
theorem fastAgain_holds : Rows.FastAgainSaid := fastAgain_over

end Go.Proofs.Ytgliichceildgaa
