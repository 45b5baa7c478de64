/- EveryLost: two unsynchronized additions result in their sum or in one of them, and nothing else: for every two numbers. -/
import Derived.Test.YtoohconipcleiaaRows
import Derived.Test.YtoohconipcleiaaMY
import Derived.Test.YtoohconipcleiaaEvR
import Derived.Test.YtoohconipcleiaaAdu
import Derived.Test.YtoohconipcleiaaHasI
import Derived.Test.YtoohconipcleiaaMI
namespace Go.Proofs.Ytoohconipcleiaa
open Go.ChangeShapes Go.WideShapes Go.ChangeAt Go.RowKit

/-- Which numbers there are at the end, each once. -/
def gotS (g : List Int) (e : EnD) : List Int := if hasB g (e.1.mem 0) = true then g else g ++ [e.1.mem 0]
def gotL (all : List EnD) : List Int := all.foldl gotS []
theorem gotL_snoc (all : List EnD) (e : EnD) : gotL (all ++ [e]) = gotS (gotL all) e := by simp [gotL]
theorem gotL_ok (all : List EnD) : (gotL all).Nodup ∧ (∀ v, v ∈ gotL all ↔ ∃ e ∈ all, e.1.mem 0 = v) ∧ (gotL all).length ≤ all.length := by
  refine snoc_rec (C := fun all => (gotL all).Nodup ∧ (∀ v, v ∈ gotL all ↔ ∃ e ∈ all, e.1.mem 0 = v) ∧ (gotL all).length ≤ all.length) ⟨List.nodup_nil, fun v => by simp [gotL], Nat.le_refl _⟩ ?_ all
  rintro all e ⟨h1, h2, h3⟩
  rw [gotL_snoc]
  unfold gotS
  by_cases c : hasB (gotL all) (e.1.mem 0) = true
  · rw [if_pos c]
    refine ⟨h1, fun v => ?_, by simp; omega⟩
    rw [h2]
    constructor
    · rintro ⟨x, hx, e1⟩; exact ⟨x, by simp [hx], e1⟩
    · rintro ⟨x, hx, e1⟩
      rcases List.mem_append.1 hx with h | h
      · exact ⟨x, h, e1⟩
      · rw [List.mem_singleton.1 h] at e1
        rw [← e1]
        exact (h2 _).1 (hasB_iff.1 c)
  · rw [if_neg c]
    have hn : e.1.mem 0 ∉ gotL all := fun h => c (hasB_iff.2 h)
    refine ⟨?_, fun v => ?_, by simp; omega⟩
    · rw [List.nodup_append]
      refine ⟨h1, by simp, fun a ha b hb => ?_⟩
      rw [List.mem_singleton.1 hb]
      intro e1; exact hn (e1 ▸ ha)
    · rw [List.mem_append, h2, List.mem_singleton]
      constructor
      · rintro (⟨x, hx, e1⟩ | rfl)
        · exact ⟨x, by simp [hx], e1⟩
        · exact ⟨e, by simp, rfl⟩
      · rintro ⟨x, hx, e1⟩
        rcases List.mem_append.1 hx with h | h
        · exact .inl ⟨x, h, e1⟩
        · rw [List.mem_singleton.1 h] at e1; exact .inr e1.symm
theorem chkP_of {p : List (List Ev)} (hp : OkP p) : chkP p = 0 := by
  unfold chkP
  rw [if_neg, if_neg, if_neg]
  · intro h
    obtain ⟨z, hz, h⟩ := List.any_eq_true.1 h
    obtain ⟨e, he, h⟩ := List.any_eq_true.1 h
    rw [hp.op z hz e he] at h; cases h
  · intro h
    obtain ⟨z, hz, h⟩ := List.any_eq_true.1 h
    have := hp.len z hz
    have := of_decide_eq_true h
    omega
  · have := hp.pos; have := hp.six; omega
section
variable {x y : Int}
theorem two_chk (hx : 1 ≤ x ∧ x ≤ 100) (hy : 1 ≤ y ∧ y ≤ 100) : chkE (twoP x y) = 0 := by
  have h := chkP_of (two_ok hx hy)
  unfold chkE
  rw [if_neg (by rw [h]; decide), if_neg (show ¬ 10 < totO (twoP x y) by show ¬ 10 < 8; decide)]
theorem two_race : raceL (runP (twoP x y) [0, 0, 1, 1, 1, 2]).2 ≠ [] := by
  have : (runP (twoP x y) [0, 0, 1, 1, 1, 2]).2 = [⟨5, 0, 1⟩, ⟨5, 0, 2⟩, ⟨1, 1, 0⟩] ++ [⟨2, 1, 0⟩, ⟨1, 2, 0⟩] := by kernel_rfl
  rw [this]
  exact race_adj (.inr rfl) (.inl rfl) (by decide) rfl (.inl rfl)
theorem two_got {all : List EnD} (h : AllE (twoP x y) all) (picks : List Int) (hl : lastB (twoP x y) (runP (twoP x y) picks).1 = true) : (runP (twoP x y) picks).1.mem 0 ∈ gotL all := by
  obtain ⟨e, he, h1⟩ := inE_iff.1 (h.has picks hl)
  refine ((gotL_ok all).2.1 _).2 ⟨e, he, ?_⟩
  have h2 := congrArg (fun A : Array Value => A[0]?) h1
  have h3 : (enE e)[0]? = some (.int .i64 (e.1.mem 0)) := endC_get _ _ _ (by omega)
  have h4 : (enE (enS (twoP x y) (runP (twoP x y) picks).1))[0]? = some (.int .i64 ((runP (twoP x y) picks).1.mem 0)) := endC_get _ _ _ (by omega)
  simp only [h3, h4, Option.some.injEq, Value.int.injEq, true_and] at h2
  exact h2
theorem los_all (hx : 1 ≤ x ∧ x ≤ 100) (hy : 1 ≤ y ∧ y ≤ 100) {all : List EnD} (h : AllE (twoP x y) all) :
    (∀ e ∈ all, e.2.1 = true ∧ e.2.2 = false) ∧ (gotL all).length = (if x = y then 2 else 3) ∧ x ∈ gotL all ∧ y ∈ gotL all ∧ x + y ∈ gotL all := by
  have hof : ∀ e ∈ all, e.2.1 = true ∧ e.2.2 = false ∧ (e.1.mem 0 = x ∨ e.1.mem 0 = y ∨ e.1.mem 0 = x + y) := fun e he => by
    obtain ⟨s, picks, h1, rfl, h3⟩ := h.of he
    have h4 := los_run hx hy picks
    rw [h1.run] at h4
    exact h4.last h1.ip h3
  have g1 : x ∈ gotL all := by
    have := two_got h [0, 0, 1, 2, 2, 2, 1, 1] (by kernel_rfl)
    have e : (runP (twoP x y) [0, 0, 1, 2, 2, 2, 1, 1]).1.mem 0 = 0 + x := by kernel_rfl
    rw [e, Int.zero_add] at this
    exact this
  have g2 : y ∈ gotL all := by
    have := two_got h [0, 0, 2, 1, 1, 1, 2, 2] (by kernel_rfl)
    have e : (runP (twoP x y) [0, 0, 2, 1, 1, 1, 2, 2]).1.mem 0 = 0 + y := by kernel_rfl
    rw [e, Int.zero_add] at this
    exact this
  have g3 : x + y ∈ gotL all := by
    have := two_got h [0, 0, 1, 1, 1, 2, 2, 2] (by kernel_rfl)
    have e : (runP (twoP x y) [0, 0, 1, 1, 1, 2, 2, 2]).1.mem 0 = 0 + x + y := by kernel_rfl
    rw [e, Int.zero_add] at this
    exact this
  refine ⟨fun e he => ⟨(hof e he).1, (hof e he).2.1⟩, ?_, g1, g2, g3⟩
  obtain ⟨n1, n2, _⟩ := gotL_ok all
  have hm : ∀ v, v ∈ gotL all ↔ v = x ∨ v = y ∨ v = x + y := fun v => by
    constructor
    · intro hv
      obtain ⟨e, he, rfl⟩ := (n2 v).1 hv
      exact (hof e he).2.2
    · rintro (rfl | rfl | rfl)
      · exact g1
      · exact g2
      · exact g3
  by_cases c : x = y
  · rw [if_pos c]
    have hp : (gotL all).Perm [x, x + y] := (List.perm_ext_iff_of_nodup n1 (by simp; omega)).2 fun v => by rw [hm]; simp; omega
    exact hp.length_eq
  · rw [if_neg c]
    have hp : (gotL all).Perm [x, y, x + y] := (List.perm_ext_iff_of_nodup n1 (by simp; omega)).2 fun v => by rw [hm]; simp
    exact hp.length_eq
end
set_option maxRecDepth 100000 in
set_option maxHeartbeats 8000000 in
theorem everyLost_walk (a b : Int) (w : World) (ha : I64 a) (hb : I64 b) :
    Calls Try.prog 10 #[.int .i64 a, .int .i64 b] w fun e w' => e = .returned (.bool true) ∧ Below w.heap.size w w' := by
  have hsm := addM_small [a, b]
  have hx := hsm 0 (by simp [addM_len])
  have hy := hsm 1 (by simp [addM_len])
  have hadd := fun (w1 : World) (A : Option Addr) (c : Nat) (h : IntS w1 A [a, b]) => adders_free [a, b] 2 rfl (by simp) A c w1 h
  obtain ⟨x, hxe⟩ : ∃ x, (addM [a, b]).getD 0 0 = x := ⟨_, rfl⟩
  obtain ⟨y, hye⟩ : ∃ y, (addM [a, b]).getD 1 0 = y := ⟨_, rfl⟩
  have hns : addM [a, b] = [x, y] := by rw [← hxe, ← hye]; rfl
  rw [hxe] at hx
  rw [hye] at hy
  rw [hns] at hadd
  unfold AduPost at hadd
  have hsum : sumF (fun t => ([x, y] : List Int).getD t 0) ([x, y] : List Int).length = x + y := by
    show 0 + x + y = x + y
    rw [Int.zero_add]
  rw [hsum, adU_two] at hadd
  have hchk := two_chk hx hy
  have hrace : raceL (runP (twoP x y) [0, 0, 1, 1, 1, 2]).2 ≠ [] := two_race
  clear hsm hxe hye hns hsum
  go_enter Try.func10, Try.ntmps10
  go_wp2_with fail
  refine (everied_any _).mono ?_
  rintro r w1 ⟨rfl, hb1⟩
  have hI : ∀ W, W = w1.alloc (.cells #[.int .i64 a, .int .i64 b] 3) → IntS W (some ⟨w1.heap.size, 0, none⟩) [a, b] := fun W e => by
    rw [e]; exact intS_full (l := [a, b]) (Has.new w1 _ _) rfl (by simp)
  have hb2 := hb1.alloc hb1.size (.cells #[.int .i64 a, .int .i64 b] 3)
  go_wp2_with fail
  refine (hadd _ _ 2 (hI _ rfl)).mono ?_
  rintro r w3 ⟨ap, cp, rfl, hP, hb3⟩
  have hk3 := hb2.trans (hb3.mono hb2.size)
  have hl3 : (twoP x y).length = 3 := rfl
  have hends := ends_any (twoP x y) ap cp w3 hP
  have hraces := fun (w4 : World) (h4 : Below w3.heap.size w3 w4) => races_any (twoP x y) ap cp w4 (hP.below h4)
  rw [hl3] at hends hraces ⊢
  clear hadd hI hb1 hb2 hb3
  go_wp2_with fail
  refine hends.mono ?_
  rintro r w4 ⟨hb4, hE⟩
  rcases hE with ⟨h0, _⟩ | ⟨_, all, aE, cE, hA, rfl, hES, _⟩
  · exact absurd hchk h0
  have hra := hraces w4 hb4
  clear hends hraces
  go_wp2_with fail
  refine hra.mono ?_
  rintro r w5 ⟨hb5, hR⟩
  rcases hR with ⟨h0, _⟩ | ⟨_, ⟨way, aw, cw, _, _, rfl, _⟩ | ⟨hno, _⟩⟩
  · exact absurd hchk h0
  rotate_left
  · exact absurd (hno _) hrace
  have hk5 := (hk3.trans (hb4.mono hk3.size)).trans (hb5.mono (hk3.trans (hb4.mono hk3.size)).size)
  have hES5 := hES.below hb5
  have hP5 := (hP.below hb4).below hb5
  obtain ⟨hfl, hlen, m1, m2, m3⟩ := los_all hx hy hA
  have hbig := out_len hA.ok
  rw [← hA.perm.length_eq] at hbig
  have HL := Lib.hid hlen
  have HM := Lib.hid (And.intro m1 (And.intro m2 m3))
  clear hra hb4 hb5 hES hP hk3 hA hrace hchk hlen m1 m2 m3
  obtain ⟨i0, hi, hz0, hz1, hz2⟩ := info_parts infoI
  go_wp2
  go_loopw [12, 40] (fun v i wr => ∃ k : Nat, k ≤ all.length ∧ i = .int .i64 k ∧ wr.ownsRow w5.heap.size 3 1 v (gotL (all.take k)).length (ints (gotL (all.take k))) ∧ Below w5.heap.size w5 wr) (fun _ i _ => all.length - (intOf i).toNat)
  case atStart => exact ⟨0, Nat.zero_le _, rfl, World.ownsRow_nil _ _ _ _, Below.refl _ _⟩
  case round =>
    obtain ⟨k, hk, rfl, hO, hb⟩ := hrel
    by_cases hlt : k < all.length
    · obtain ⟨be, oe, rfl, hr⟩ := (hES5.below hb).at hlt
      have hx := hfl all[k] (List.getElem_mem hlt)
      have hsn : gotL (all.take (k + 1)) = gotS (gotL (all.take k)) all[k] := by
        rw [List.take_succ_eq_append_getElem hlt, gotL_snoc]
      have hgl := (gotL_ok (all.take k)).2.2
      rw [List.length_take] at hgl
      have hZ := enE_size all[k]
      have hZ1 := enE_one all[k]
      have hE0 : (enE all[k])[0]? = some (.int .i64 (all[k].1.mem 0)) := endC_get _ _ _ (by omega)
      have hE18 : (enE all[k])[18]? = some (.bool all[k].2.1) := endC_get _ _ _ (by omega)
      have hE19 : (enE all[k])[19]? = some (.bool all[k].2.2) := endC_get _ _ _ (by omega)
      rw [hx.1] at hE18
      rw [hx.2] at hE19
      have hz20 := endC_size PS.zero false false
      have hgs : gotS (gotL (all.take k)) all[k] = if hasB (gotL (all.take k)) (all[k].1.mem 0) = true then gotL (all.take k) else gotL (all.take k) ++ [all[k].1.mem 0] := rfl
      rw [hgs] at hsn
      generalize all[k].1.mem 0 = m at *
      obtain ⟨Z, hZe⟩ : ∃ Z, enE all[k] = Z := ⟨_, rfl⟩
      rw [hZe] at hr hZ hZ1 hE0 hE18 hE19
      generalize hG : gotL (all.take k) = G at *
      have HSN := Lib.hid hsn
      have k0 : (0 : Int) ≤ k := by omega
      have k1 : (k : Int) < all.length := by omega
      clear hx hsn hgs hZe hG
      go_upto_region 10 with (first
        | (refine wpList_load_mid rfl endT _ rfl be (oe + k * 20) rfl Z.toList _ hr Try.underlying29 rfl (by rw [Array.length_toList, hZ]; rfl) ?_; rw [Array.toArray_toList])
        | (refine wpList_store_row rfl endT _ _ rfl wr.heap.size Z rfl rfl endT _ (Has.new wr (endC PS.zero false false) endT).out (by rw [hZ]; rfl) (by rw [hZ, hz20]) hZ1 ?_))
      generalize hWx : World.setRow _ _ _ = W2
      have hN2 : Has W2 wr.heap.size Z endT := by rw [← hWx]; exact (Has.new wr (endC PS.zero false false) endT).setRow
      have hb2 : Below wr.heap.size wr W2 := by rw [← hWx]; exact below_setRow ((Below.refl _ _).alloc (Nat.le_refl _) _) (Nat.le_refl _)
      have hbW := hb.trans (hb2.mono hb.size)
      have hO2 := own_below hO hb2
      obtain ⟨ag, cg, rfl, hIG, _⟩ := intS_own hO2 (by omega)
      have g0 : W2.cell? ⟨wr.heap.size, 0, none⟩ = some (.int .i64 m) := hN2.cell hE0
      have g18 : W2.cell? ⟨wr.heap.size, 18, none⟩ = some (.bool true) := hN2.cell hE18
      have g19 : W2.cell? ⟨wr.heap.size, 19, none⟩ = some (.bool false) := hN2.cell hE19
      have hhas := hasInt_any G m ag cg W2 hIG
      generalize hq : hasB G m = q at *
      clear hWx hr hO hb hb2 hE0 hE18 hE19
      go_wp2_with fail
      refine hhas.mono ?_
      rintro r wq ⟨rfl, hw⟩
      rw [hw]
      clear hw hhas
      have hs2 := hbW.size
      cases q
      · have hsn := HSN.out
        rw [if_neg (by decide)] at hsn
        have hN := Has.new W2 #[.int .i64 m] 3
        have hb3 := hbW.alloc hs2 (.cells #[.int .i64 m] 3)
        go_wp2_with (at_builtin; refine app_list _ rfl (.tmp 57) (.tmp 61) 23 rfl Try.underlying23 hi hz0 hz1 hz2 rfl (by decide) rfl (hO2.alloc _) rfl (news := [.int .i64 m]) ⟨rfl, .inr ⟨_, rfl, fun j u hu => hN.cell_add (by simpa using hu)⟩⟩ (by intro q hq; simp at hq; subst hq; rfl) (by unfold maxLen; omega) (by omega) (by have := hb3.size; simp at this ⊢; omega) ?_)
        intro v6 w6 hAp
        have hb8 := hAp.below (hO2.alloc _) hb3 (by have := hb3.size; simp at this ⊢; omega)
        have ho6 : w6.ownsRow w5.heap.size 3 1 v6 (gotL (all.take (k + 1))).length (ints (gotL (all.take (k + 1)))) := by
          rw [hsn]
          have := hAp.own
          simpa using this
        clear hAp hO2 hN hb3 hIG g0 g18 g19 hN2 hsn HSN hbW
        go_wp2
        go_roundw
        case rel => exact ⟨k + 1, by omega, by go_num, ho6, hb8⟩
        case measure => (simp [intOf]; try omega)
      · have hsn := HSN.out
        rw [if_pos rfl] at hsn
        have hO3 : W2.ownsRow w5.heap.size 3 1 (.slice ag G.length cg) (gotL (all.take (k + 1))).length (ints (gotL (all.take (k + 1)))) := by rw [hsn]; exact hO2
        clear hIG g0 g18 g19 hN2 hsn HSN
        go_wp2
        go_roundw
        case rel => exact ⟨k + 1, by omega, by go_num, hO3, hbW⟩
        case measure => (simp [intOf]; try omega)
    · obtain rfl : k = all.length := by omega
      rw [List.take_length] at hO
      have hgl := (gotL_ok all).2.2
      generalize gotL all = G at *
      obtain ⟨ag, cg, rfl, hIG, _⟩ := intS_own hO (by omega)
      have hPr := hP5.below hb
      have hkr := hk5.trans (hb.mono hk5.size)
      obtain ⟨pb, po, pa1, pc1, rfl, d1, hE1⟩ := hPr.at (t := 1) (show 1 < 3 by decide)
      obtain ⟨_, _, pa2, pc2, e2, d2, hE2⟩ := hPr.at (t := 2) (show 2 < 3 by decide)
      cases e2
      have e1 : (twoP x y)[1]'(show 1 < 3 by decide) = [⟨1, 0, 0⟩, ⟨3, 0, x⟩, ⟨2, 0, 0⟩] := rfl
      have e2 : (twoP x y)[2]'(show 2 < 3 by decide) = [⟨1, 0, 0⟩, ⟨3, 0, y⟩, ⟨2, 0, 0⟩] := rfl
      rw [e1] at hE1 d1
      rw [e2] at hE2 d2
      obtain ⟨b1, o1, rfl, _, _, f1⟩ := hE1.at (i := 1) (show 1 < 3 by decide)
      obtain ⟨b2, o2, rfl, _, _, f2⟩ := hE2.at (i := 1) (show 1 < 3 by decide)
      have F1 : ∀ w9, Below wr.heap.size wr w9 → w9.cell? ⟨pb, po + 1, none⟩ = some (.slice (some ⟨b1, o1, none⟩) 3 pc1) := fun w9 h9 => (h9.cell (World.block_lt_of_cell? wr _ d1)).trans d1
      have F2 : ∀ w9, Below wr.heap.size wr w9 → w9.cell? ⟨pb, po + 2, none⟩ = some (.slice (some ⟨b2, o2, none⟩) 3 pc2) := fun w9 h9 => (h9.cell (World.block_lt_of_cell? wr _ d2)).trans d2
      have F3 : ∀ w9, Below wr.heap.size wr w9 → w9.cell? ⟨b1, o1 + 1 * 3 + 2, none⟩ = some (.int .i64 x) := fun w9 h9 => (h9.cell (World.block_lt_of_cell? wr _ f1)).trans f1
      have F4 : ∀ w9, Below wr.heap.size wr w9 → w9.cell? ⟨b2, o2 + 1 * 3 + 2, none⟩ = some (.int .i64 y) := fun w9 h9 => (h9.cell (World.block_lt_of_cell? wr _ f2)).trans f2
      clear hPr hP5 hE1 hE2 d1 d2 f1 f2 hO hES5 hfl e1 e2
      go_upto_region 15 with fail
      refine wp_region_fac 14 (fun _ => false) [.one ?y0, .one ?y1, .one ?y2, .one ?y3, .one ?y4, .one ?y5, .one ?y6, .one ?y7, .one ?y8, .one ?y9, .one ?y10, .one ?y11, .one ?y12, .one ?y13] (by kernel_rfl) (by kernel_rfl) (by kernel_rfl) (by intro F hF; simp at hF) ?goy
      case goy =>
      simp only [List.take_succ_cons, List.take_zero, List.drop_succ_cons, List.drop_zero]
      repeat (with_reducible refine wpFac_one rfl (fun w1 hw1 hd => ?_) (fun a1 ha1 => ?_); (· have eF1 := F1 w1 hw1; have eF2 := F2 w1 hw1; have eF3 := F3 w1 hw1; have eF4 := F4 w1 hw1; go_simp; first | exact rfl | (refine ⟨atD_some ?_, Below.refl _ _⟩; simp only [List.getElem?_toArray, List.getElem?_cons_succ, List.getElem?_cons_zero]; exact rfl)); simp [Act.put] at ha1; subst ha1)
      refine wpFac_nil ?_
      intro w7 hw7 _
      have hk7 := hkr.trans (hw7.mono hkr.size)
      have hI7 := hIG.below hw7
      have hh1 := fun (v : Int) (w8 : World) (h8 : IntS w8 ag G) => hasInt_any G v ag cg w8 h8
      have hb1 : hasB G x = true := hasB_iff.2 HM.out.1
      have hb2 : hasB G y = true := hasB_iff.2 HM.out.2.1
      have hb3 : hasB G (x + y) = true := hasB_iff.2 HM.out.2.2
      have h1 := hh1 (x + y) w7 hI7
      have h2 := hh1 x w7 hI7
      have h3 := hh1 y w7 hI7
      rw [hb1] at h2
      rw [hb2] at h3
      rw [hb3] at h1
      have hlen := HL.out
      have hgb := hI7.big
      clear F1 F2 F3 F4 hw7 hkr hIG hh1 hb1 hb2 hb3 hI7 hk5 HM HL
      by_cases c : x = y
      · subst c
        rw [if_pos rfl] at hlen
        have q1 : (x == x) = true := beq_self_eq_true x
        rw [hlen] at h1 h2 h3 ⊢
        go_wp2_with fail
        refine h1.mono ?_
        rintro r wq ⟨rfl, hw⟩
        rw [hw]
        clear hw
        go_wp2_with fail
        refine h2.mono ?_
        rintro r wq ⟨rfl, hw⟩
        rw [hw]
        clear hw
        go_wp2_with fail
        refine h3.mono ?_
        rintro r wq ⟨rfl, hw⟩
        rw [hw]
        clear hw h1 h2 h3
        go_wp2
        go_ret
        exact ⟨rfl, hk7⟩
      · rw [if_neg c] at hlen
        have q1 : (x == y) = false := beq_eq_false_iff_ne.2 c
        clear c
        rw [hlen] at h1 h2 h3 ⊢
        go_wp2_with fail
        refine h1.mono ?_
        rintro r wq ⟨rfl, hw⟩
        rw [hw]
        clear hw
        go_wp2_with fail
        refine h2.mono ?_
        rintro r wq ⟨rfl, hw⟩
        rw [hw]
        clear hw
        go_wp2_with fail
        refine h3.mono ?_
        rintro r wq ⟨rfl, hw⟩
        rw [hw]
        clear hw h1 h2 h3
        go_wp2
        go_ret
        exact ⟨rfl, hk7⟩
/-! The frame of the law EveryLost, by program. -/
set_option maxRecDepth 100000 in
theorem everyLost_lifted (os : Os) (started : os.Started) (H : Type) (enc : TypeId × Value → H) :
    ReturnsInHanded {} Try.checked os 10 .any (Rows.everyLostSpec.pre6 enc Try.prog Try.f10 Rows.everyLostRow.domain false) (Rows.everyLostSpec.post enc Try.prog Try.f10 false true false false) := by
  refine returnsInHanded_of_change_shaped (C := Try.checked) frame_own started (by kernel_rfl) Try.func10
    (ChangeSpec.witness6 (enc := enc) (C := Try.checked) false ⟨#[], #[.int .i64 0, .int .i64 0], []⟩ 8 (by kernel_rfl) (by kernel_rfl) (by kernel_rfl) (by kernel_rfl)) ?_
  intro W base args ds gs before hval0 hW hcnd hsz hshaped hroom
  clear hcnd hshaped
  have hval : ∀ (j : Nat) t v, Try.f10.params[j]? = some t → args[j]? = some v → Value.okWide Try.prog W .any base t v := hval0
  have hW' := hW
  obtain ⟨p, q, hA0, hV, rfl, hfz, hnd⟩ := hW
  have hA : DataW.TrodAll enc Try.prog W 0 (fun _ => true) true Try.f10.params.toList args.toList ds p := hA0
  rw [Try.params10] at hA hval
  obtain ⟨v0, vs0, d0, ds0, p0, q0, hargs, rfl, rfl, h0, r0⟩ := trodAll_cons hA
  obtain ⟨v1, vs1, d1, ds1, p1, q1, rfl, rfl, rfl, h1, r1⟩ := trodAll_cons r0
  obtain ⟨rfl, rfl, rfl⟩ := trodAll_nil r1
  obtain rfl : args = #[v0, v1] := by cases args; simp_all
  obtain ⟨rfl, rfl⟩ := trodVars_none hV
  have k0 := h0
  have lt0 : ∀ x ∈ p0, x.block < W.heap.size := by obtain ⟨m, hm⟩ := k0; exact DataW.trod_lt m _ _ _ hm
  obtain ⟨a0, rfl, rfl, rfl, w0⟩ := open_int Try.underlying3 (hval 0 3 v0 rfl rfl) h0
  have k1 := h1
  have lt1 : ∀ x ∈ p1, x.block < W.heap.size := by obtain ⟨m, hm⟩ := k1; exact DataW.trod_lt m _ _ _ hm
  obtain ⟨a1, rfl, rfl, rfl, w1⟩ := open_int Try.underlying3 (hval 1 3 v1 rfl rfl) h1
  clear hA0 hval0
  refine (everyLost_walk a0 a1 W (wf_i64 w0) (wf_i64 w1)).mono fun e W' ⟨he, bel⟩ => ?_
  subst he
  exact ⟨_, rfl, _, _, _, [], _, [], hW', trodAll_mk1 (shut_bool Try.underlying4 _), (trodAll_cons_mk (Below.trod frame_laid (by kernel_rfl) (of_decide_eq_true (by kernel_rfl)) k0 bel lt0) (trodAll_cons_mk (Below.trod frame_laid (by kernel_rfl) (of_decide_eq_true (by kernel_rfl)) k1 bel lt1) trodAll_mk0)), rfl, bel.frame _, fun h => by cases h⟩

theorem everyLost_over : Rows.everyLostRow.holds Try.pinned (OpenSpec.ofChange Rows.everyLostSpec) :=
  OpenClaim.holds_of_wide 10 Try.f10 rfl rfl rfl rfl rfl rfl rfl ⟨rfl, rfl, rfl, rfl, rfl⟩ rfl rfl rfl rfl rfl (by kernel_rfl) Try.func10 (by kernel_rfl)
    (of_decide_eq_true (by kernel_rfl)) (by unfold Func.isWrapper; first | (rw [if_pos (by decide +kernel)]; kernel_rfl) | (rw [if_neg (by decide +kernel)]; exact ⟨rfl, rfl⟩))
    (fun os started H enc _ => everyLost_lifted os started H enc)

/-- The statement. -/
theorem everyLost_holds : Rows.EveryLostSaid := everyLost_over

end Go.Proofs.Ytoohconipcleiaa
