/- EveryWay: Way leads to its end: for every program. -/
import Derived.Test.YtoohconipcleiaaRows
import Derived.Test.YtoohconipcleiaaEvI
import Derived.Test.YtoohconipcleiaaEvU
import Derived.Test.YtoohconipcleiaaMF
import Derived.Test.YtoohconipcleiaaMI
import Derived.Deep.DeepCutAuto
namespace Go.Proofs.Ytoohconipcleiaa
open Go.ChangeShapes Go.WideShapes Go.ChangeAt Go.RowKit

theorem AllE.found {p : List (List Ev)} {all : List EnD} (h : AllE p all) (hck : chkP p = 0) {x : EnD} (hx : x ∈ all) : ∃ way, (walkP p (goW p (enE x)) none).1.2 = some way ∧ endR p way = enE x ∧ errR p way.length = 0 := by
  obtain ⟨s, picks, h1, h2, h3⟩ := h.of hx
  obtain ⟨s', way, g1, g2, g3⟩ := way_found (e := enE x) h.ok h.small picks (by
    rw [h1.run, fitB_iff]
    exact ⟨h3, by rw [h2]⟩)
  have hl : way.length ≤ 100 := by
    have a1 := g2.len
    have a2 := sumA_tot g2.ip
    have a3 := h.small
    omega
  have he : errR p way.length = 0 := by
    unfold errR
    rw [if_pos hck, if_neg (by omega)]
  refine ⟨way, g1, ?_, he⟩
  unfold endR
  rw [if_pos he, g2.run]
  exact (fitB_iff.1 g3).2
theorem AllE.apart {p : List (List Ev)} {all : List EnD} (h : AllE p all) {i : Nat} (hi : i + 1 < all.length) : eqE all[i + 1] all[i] = false := by
  have h1 := List.pairwise_iff_getElem.1 h.one i (i + 1) (by omega) hi (by omega)
  rw [Bool.eq_false_iff]
  intro e
  exact h1 (eqE_iff.1 e).symm
theorem AllE.flags {p : List (List Ev)} {all : List EnD} (h : AllE p all) {x : EnD} (hx : x ∈ all) : (x.2.1 == x.2.2) = false := by
  obtain ⟨s, picks, h1, h2, h3⟩ := h.of hx
  have h4 := stuck_done p s
  rw [h2]
  show (doneB p s == stuckB p s) = false
  unfold lastB at h3
  cases hd : doneB p s <;> cases hk : stuckB p s <;> simp_all
theorem AllE.num {p : List (List Ev)} {all : List EnD} (h : AllE p all) {x : EnD} (hx : x ∈ all) : NumOk x.1 := by
  obtain ⟨s, picks, h1, h2, h3⟩ := h.of hx
  rw [h2]
  exact (h1.stz h.ok).1.num
theorem neq_enE {x y : EnD} (hx : NumOk x.1) (hy : NumOk y.1) (w : World) : (binOp .neq endT (.agg (enE x)) (.agg (enE y))).run Try.prog w = .ok (.bool (!eqE x y)) w := by
  obtain ⟨r, hr, hiff⟩ := end_deep w 3 3 (.agg (endC x.1 x.2.1 x.2.2)) (.agg (endC y.1 y.2.1 y.2.2)) _ _ (endC_formed _ _ _) (endC_formed _ _ _) (lits_end hx _ _) (lits_end hy _ _)
  rw [litE_iff] at hiff
  have : r = eqE x y := by rw [Bool.eq_iff_iff, hiff, eqE_iff]; rfl
  rw [run_neq_struct, ← this]
  generalize hD : (10000 : Nat) = D at *
  show _ = _
  rw [show enE x = endC x.1 x.2.1 x.2.2 from rfl, show enE y = endC y.1 y.2.1 y.2.2 from rfl, hr]
  rfl
set_option maxRecDepth 100000 in
set_option maxHeartbeats 8000000 in
theorem everyWay_walk (a : Option Addr) (p : List (List Ev)) (c : Nat) (w : World) (hp : PgS w a p ∧ (p.length ≤ c ∧ p.length * 24 ≤ 140737488351232) ∧ ∀ z ∈ p, ∀ e ∈ z, I64 e.k ∧ I64 e.t ∧ I64 e.o) :
    Calls Try.prog 7 #[.slice a p.length c] w fun e w' => e = .returned (.bool true) ∧ Below w.heap.size w w' := by
  have h := hp.1
  clear hp
  go_enter Try.func7, Try.ntmps7
  go_wp2_with fail
  refine (everied_any _).mono ?_
  rintro r w1 ⟨rfl, hb1⟩
  go_wp2_with fail
  refine (ends_any p a c _ (h.below hb1)).mono ?_
  rintro r w2 ⟨hk2, hE⟩
  have hb2 := hb1.trans (hk2.mono hb1.size)
  rcases hE with ⟨h0, rfl⟩ | ⟨hch, all, aE, cE, hA, rfl, hES, hnum⟩
  · have e1 : (chkE p != 0) = true := bne_iff_ne.2 h0
    have e2 : (chkE p == 0) = false := beq_eq_false_iff_ne.2 h0
    have e3 : decide (chkE p = 0) = false := decide_eq_false h0
    clear h0 hk2 hb1
    generalize chkE p = C at *
    go_wp2
    go_ret
    exact ⟨rfl, hb2⟩
  · have hck : chkP p = 0 := by
      unfold chkE at hch
      by_cases c : chkP p = 0
      · exact c
      · rw [if_pos c] at hch; exact hch
    have HCE := Lib.hid hch
    have HCP := Lib.hid hck
    have hbig := hES.big
    have hz20 := endC_size PS.zero false false
    clear hb1 hk2 hch hck
    go_wp2
    go_loopw [26] (fun i wr => ∃ k : Nat, k ≤ all.length ∧ i = .int .i64 k ∧ EnS wr aE all ∧ Below w.heap.size w wr) (fun i _ => all.length - (intOf i).toNat)
    case atStart => exact ⟨0, Nat.zero_le _, rfl, hES, hb2⟩
    case round =>
      clear hES hb2
      obtain ⟨k, hk, rfl, hES, hb⟩ := hrel
      by_cases hlt : k < all.length
      · obtain ⟨b, o, rfl, hr⟩ := hES.at hlt
        have k0 : (0 : Int) ≤ k := by omega
        have k1 : (k : Int) < all.length := by omega
        have hx : all[k] ∈ all := List.getElem_mem hlt
        obtain ⟨way, hw1, hw2, hw3⟩ := hA.found HCP.out hx
        have hfl := hA.flags hx
        have hnm := hA.num hx
        have hprev : 0 < k → ∃ j, ∃ (hj : j < all.length), j + 1 = k ∧ eqE all[k] all[j] = false ∧ NumOk all[j].1 := fun h0 => by
          obtain ⟨j, rfl⟩ : ∃ j, k = j + 1 := ⟨k - 1, by omega⟩
          exact ⟨j, by omega, rfl, hA.apart hlt, hA.num (List.getElem_mem _)⟩
        have hE18 : (enE all[k])[18]? = some (.bool all[k].2.1) := endC_get _ _ _ (by omega)
        have hE19 : (enE all[k])[19]? = some (.bool all[k].2.2) := endC_get _ _ _ (by omega)
        have hZ := enE_size all[k]
        have hZ1 := enE_one all[k]
        have hself : eqE all[k] all[k] = true := eqE_iff.2 rfl
        generalize all[k] = x at *
        go_upto_region 9 with (first
          | (refine wpList_load_mid rfl endT _ rfl b (o + k * 20) rfl (enE x).toList _ hr Try.underlying29 rfl (by rw [Array.length_toList, hZ]; rfl) ?_; rw [Array.toArray_toList])
          | (refine wpList_store_row rfl endT _ _ rfl wr.heap.size (enE x) rfl rfl endT _ (Has.new wr (endC PS.zero false false) endT).out (by rw [hZ]; rfl) (by rw [hZ, hz20]) hZ1 ?_))
        generalize hWx : World.setRow _ _ _ = W2
        have hN2 : Has W2 wr.heap.size (enE x) endT := by rw [← hWx]; exact (Has.new wr (endC PS.zero false false) endT).setRow
        have hk2 : Below wr.heap.size wr W2 := by rw [← hWx]; exact below_setRow ((Below.refl _ _).alloc (Nat.le_refl _) _) (Nat.le_refl _)
        have hb2 := hb.trans (hk2.mono hb.size)
        have hES2 := hES.below hk2
        clear hWx hk2 hES hr hb
        have hQ9 : ∀ W3, Below W2.heap.size W2 W3 → Hid True := fun _ _ => Lib.hid trivial
        have hwy := fun (w3 : World) (h3 : Below w.heap.size w w3) => way_any p x a c w3 (h.below h3) hnm
        have hrn := fun (w3 : World) (h3 : Below w.heap.size w w3) (aw : Option Addr) (cw : Nat) (hI : IntS w3 aw way) => run_any p way a aw c cw w3 (h.below h3) hI
        unfold RunPost at hrn
        rw [hw2, hw3] at hrn
        have hneq := fun (w3 : World) => neq_enE (x := x) (y := x) hnm hnm w3
        rw [hself] at hneq
        have hneq2 : ∀ w3, (binOp .neq endT (.agg (enE x)) (.agg (enE x))).run Try.prog w3 = .ok (.bool false) w3 := hneq
        clear hneq hself hQ9
        have HW1 := Lib.hid hw1
        have HEQ : Hid (∀ (z : EnD), NumOk z.1 → eqE x z = false → ∀ w3, (binOp .eql endT (.agg (enE x)) (.agg (enE z))).run Try.prog w3 = .ok (.bool false) w3) := Lib.hid fun z hz h0 w3 => by rw [eql_enE hnm hz, h0]
        clear hw1 hnm
        obtain ⟨X, hXe⟩ : ∃ X, enE x = X := ⟨_, rfl⟩
        have HX := Lib.hid hXe
        rw [hXe] at hN2 hE18 hE19 hZ hZ1 hneq2 hwy hrn HEQ
        clear hXe hw2 hw3
        obtain ⟨D, hDe⟩ : ∃ D, x.2.1 = D := ⟨_, rfl⟩
        obtain ⟨K, hKe⟩ : ∃ K, x.2.2 = K := ⟨_, rfl⟩
        rw [hDe] at hE18 hfl
        rw [hKe] at hE19 hfl
        clear hDe hKe
        have F1 : ∀ w3, Below W2.heap.size W2 w3 → w3.cell? ⟨wr.heap.size, 18, none⟩ = some (.bool D) := fun w3 h3 => (hN2.below h3 hN2.lt).cell hE18
        have F2 : ∀ w3, Below W2.heap.size W2 w3 → w3.cell? ⟨wr.heap.size, 19, none⟩ = some (.bool K) := fun w3 h3 => (hN2.below h3 hN2.lt).cell hE19
        have F3 : ∀ w3, Below W2.heap.size W2 w3 → (D == K) = false := fun _ _ => hfl
        by_cases hz : k = 0
        case pos =>
          subst hz
          clear hprev HEQ
          have k2 : ((0 : Nat) : Int) = 0 := rfl
          refine wp_region_fac 18 (fun _ => false) [.one ?x0, .one ?x1, .one ?x2, .one ?x3, .one ?x4, .one ?x5, .one ?x6, .one ?x7, .one ?x8, .one ?x9, .one ?x10, .one ?x11, .one ?x12, .one ?x13, .one ?x14, .one ?x15, .one ?x16, .one ?x17] (by kernel_rfl) (by kernel_rfl) (by kernel_rfl) (by intro F hF; simp at hF) ?gox
          case gox =>
          simp only [List.take_succ_cons, List.take_zero, List.drop_succ_cons, List.drop_zero]
          repeat (with_reducible refine wpFac_one rfl (fun w1 hw1 hd => ?_) (fun a1 ha1 => ?_); (· have eF1 := F1 w1 hw1; have eF2 := F2 w1 hw1; have eF3 := F3 w1 hw1; go_simp; first | exact rfl | (refine ⟨atD_some ?_, Below.refl _ _⟩; simp only [List.getElem?_toArray, List.getElem?_cons_succ, List.getElem?_cons_zero]; exact rfl)); simp [Act.put] at ha1; subst ha1)
          refine wpFac_nil ?_
          intro w3 hw3 _
          refine wpList_nil ?_
          have hb3 := hb2.trans (hw3.mono hb2.size)
          have hES3 := hES2.below hw3
          have hN3 := hN2.below hw3 hN2.lt
          have hwy3 := hwy w3 hb3
          clear F1 F2 F3 hw3 hES2 hN2 hE18 hE19 hb2 hwy
          go_wp2_with (refine wpList_load_row rfl endT _ rfl wr.heap.size rfl endT X (0, 0) _ hN3.out Try.underlying29 rfl (by rw [hZ]; rfl) ?_)
          refine hwy3.mono ?_
          rintro r w4 ⟨hk4, hW⟩
          have hb4 := hb3.trans (hk4.mono hb3.size)
          have hES4 := hES3.below hk4
          have hN4 := hN3.below hk4 hN3.lt
          rcases hW with ⟨h0, _⟩ | ⟨_, h0, _⟩ | ⟨_, way', aw, cw, h0, rfl, hIw⟩
          · exact absurd HCE.out h0
          · rw [HW1.out] at h0; cases h0
          · rw [HW1.out] at h0
            cases h0
            have hrn4 := hrn w4 hb4 aw cw hIw
            clear hwy3 hk4 hES3 hN3 hb3 hrn
            go_wp2_with fail
            refine hrn4.mono ?_
            rintro r w5 ⟨a5, c5, _, rfl, _, hk5⟩
            have hb5 := hb4.trans (hk5.mono hb4.size)
            have hES5 := hES4.below hk5
            have hN5 := hN4.below hk5 hN4.lt
            clear hrn4 hk5 hES4 hN4 hb4 hIw
            go_upto_region 13 with (refine wpList_store_row rfl endT _ _ rfl w5.heap.size X rfl rfl endT _ (Has.new w5 (endC PS.zero false false) endT).out (by rw [hZ]; rfl) (by rw [hZ, hz20]) hZ1 ?_)
            generalize hWx : World.setRow _ _ _ = W6
            have hY6 : Has W6 w5.heap.size X endT := by rw [← hWx]; exact (Has.new w5 (endC PS.zero false false) endT).setRow
            have hk6 : Below w5.heap.size w5 W6 := by rw [← hWx]; exact below_setRow ((Below.refl _ _).alloc (Nat.le_refl _) _) (Nat.le_refl _)
            have hb6 := hb5.trans (hk6.mono hb5.size)
            have hES6 := hES5.below hk6
            have hN6 := hN5.below hk6 hN5.lt
            clear hWx hk6 hES5 hN5 hb5
            go_wp2_with (first
              | (refine wpList_yes rfl (fun K hK => ?_); refine wp_load_row endT _ rfl wr.heap.size rfl endT X (0, 0) _ hN6.out Try.underlying29 rfl (by rw [hZ]; rfl) ?_; refine hK _ _ ?_; clear hK K)
              | (refine wpList_yes rfl (fun K hK => ?_); refine wp_load_row endT _ rfl w5.heap.size rfl endT X (0, 0) _ hY6.out Try.underlying29 rfl (by rw [hZ]; rfl) ?_; refine hK _ _ ?_; clear hK K))
            go_roundw
            case rel => exact ⟨1, by omega, by go_num, hES6, hb6⟩
            case measure => (simp [intOf]; try omega)
        case neg =>
          obtain ⟨j, hj, hjk, hje, hjn⟩ := hprev (by omega)
          subst hjk
          have heq := HEQ.out all[j] hjn hje
          obtain ⟨b', o', hbo, hrj⟩ := hES2.at hj
          cases hbo
          have hZj := enE_size all[j]
          generalize enE all[j] = Z at *
          have j0 : (0 : Int) ≤ j := by omega
          have j1 : (j : Int) < all.length := by omega
          have j2 : ((j + 1 : Nat) : Int) > 0 := by omega
          have hwr : IntKind.i64.wrap (j : Int) = j := by simp [IntKind.wrap, IntKind.bits, IntKind.signed]; omega
          have j3 : (j : Int) + 1 > 0 := by omega
          have j4 : decide ((j : Int) + 1 > 0) = true := decide_eq_true j3
          have j5 : decide (0 < (j : Int) + 1) = true := decide_eq_true j3
          have F4 : ∀ w3, Below W2.heap.size W2 w3 → (binOp .eql endT (.agg X) (.agg Z)).run Try.prog w3 = .ok (.bool false) w3 := fun w3 _ => heq w3
          clear hz HEQ hje hjn
          refine wp_region_fac 18 (fun _ => false) [.one ?y0, .one ?y1, .one ?y2, .one ?y3, .one ?y4, .one ?y5, .one ?y6, .one ?y7, .one ?y8, .one ?y9, .one ?y10, .one ?y11, .one ?y12, .one ?y13, .one ?y14, .one ?y15, .one ?y16, .one ?y17] (by kernel_rfl) (by kernel_rfl) (by kernel_rfl) (by intro F hF; simp at hF) ?goy
          case goy =>
          simp only [List.take_succ_cons, List.take_zero, List.drop_succ_cons, List.drop_zero]
          repeat (with_reducible refine wpFac_one rfl (fun w1 hw1 hd => ?_) (fun a1 ha1 => ?_); (· have eF1 := F1 w1 hw1; have eF2 := F2 w1 hw1; have eF3 := F3 w1 hw1; go_simp; first | exact rfl | (refine ⟨atD_some ?_, Below.refl _ _⟩; simp only [List.getElem?_toArray, List.getElem?_cons_succ, List.getElem?_cons_zero]; exact rfl)); simp [Act.put] at ha1; subst ha1)
          with_reducible refine wpFac_one rfl (fun w1 hw1 hd => ?_) (fun a1 ha1 => ?_)
          · refine asked rfl ?_
            refine wp_load_row 29 _ rfl (wr.heap.size) rfl 29 X (0, 0) _ (hN2.below hw1 hN2.lt).out Try.underlying29 rfl (by rw [hZ]; rfl) ?_
            refine ⟨rfl, atD_some ?_, Below.refl _ _⟩
            simp [Act.put]
            exact rfl
          simp [Act.put] at ha1; subst ha1
          repeat (with_reducible refine wpFac_one rfl (fun w1 hw1 hd => ?_) (fun a1 ha1 => ?_); (· have eF1 := F1 w1 hw1; have eF2 := F2 w1 hw1; have eF3 := F3 w1 hw1; go_simp; first | exact rfl | (refine ⟨atD_some ?_, Below.refl _ _⟩; simp only [List.getElem?_toArray, List.getElem?_cons_succ, List.getElem?_cons_zero]; exact rfl)); simp [Act.put] at ha1; subst ha1)
          with_reducible refine wpFac_one rfl (fun w1 hw1 hd => ?_) (fun a1 ha1 => ?_)
          · refine asked rfl ?_
            refine wp_load_mid 29 _ rfl b (o + j * 20) rfl Z.toList _ (fun q v hv => (hw1.cell (World.block_lt_of_cell? W2 _ (hrj q v hv))).trans (hrj q v hv)) Try.underlying29 rfl (by rw [Array.length_toList, hZj]; rfl) ?_
            refine ⟨rfl, atD_some ?_, Below.refl _ _⟩
            simp [Act.put]
            exact rfl
          simp [Act.put] at ha1; subst ha1
          repeat (with_reducible refine wpFac_one rfl (fun w1 hw1 hd => ?_) (fun a1 ha1 => ?_); (· have eF1 := F1 w1 hw1; have eF2 := F2 w1 hw1; have eF3 := F3 w1 hw1; have eF4 := F4 w1 hw1; go_simp; first | exact rfl | (refine ⟨atD_some ?_, Below.refl _ _⟩; simp only [List.getElem?_toArray, List.getElem?_cons_succ, List.getElem?_cons_zero]; exact rfl)); simp [Act.put] at ha1; subst ha1)
          refine wpFac_nil ?_
          intro w3 hw3 _
          refine wpList_nil ?_
          have hb3 := hb2.trans (hw3.mono hb2.size)
          have hES3 := hES2.below hw3
          have hN3 := hN2.below hw3 hN2.lt
          have hwy3 := hwy w3 hb3
          clear F1 F2 F3 F4 heq hrj hw3 hES2 hN2 hE18 hE19 hb2 hwy
          go_wp2_with (refine wpList_load_row rfl endT _ rfl wr.heap.size rfl endT X (0, 0) _ hN3.out Try.underlying29 rfl (by rw [hZ]; rfl) ?_)
          refine hwy3.mono ?_
          rintro r w4 ⟨hk4, hW⟩
          have hb4 := hb3.trans (hk4.mono hb3.size)
          have hES4 := hES3.below hk4
          have hN4 := hN3.below hk4 hN3.lt
          rcases hW with ⟨h0, _⟩ | ⟨_, h0, _⟩ | ⟨_, way', aw, cw, h0, rfl, hIw⟩
          · exact absurd HCE.out h0
          · rw [HW1.out] at h0; cases h0
          · rw [HW1.out] at h0
            cases h0
            have hrn4 := hrn w4 hb4 aw cw hIw
            clear hwy3 hk4 hES3 hN3 hb3 hrn
            go_wp2_with fail
            refine hrn4.mono ?_
            rintro r w5 ⟨a5, c5, _, rfl, _, hk5⟩
            have hb5 := hb4.trans (hk5.mono hb4.size)
            have hES5 := hES4.below hk5
            have hN5 := hN4.below hk5 hN4.lt
            clear hrn4 hk5 hES4 hN4 hb4 hIw
            go_upto_region 13 with (refine wpList_store_row rfl endT _ _ rfl w5.heap.size X rfl rfl endT _ (Has.new w5 (endC PS.zero false false) endT).out (by rw [hZ]; rfl) (by rw [hZ, hz20]) hZ1 ?_)
            generalize hWx : World.setRow _ _ _ = W6
            have hY6 : Has W6 w5.heap.size X endT := by rw [← hWx]; exact (Has.new w5 (endC PS.zero false false) endT).setRow
            have hk6 : Below w5.heap.size w5 W6 := by rw [← hWx]; exact below_setRow ((Below.refl _ _).alloc (Nat.le_refl _) _) (Nat.le_refl _)
            have hb6 := hb5.trans (hk6.mono hb5.size)
            have hES6 := hES5.below hk6
            have hN6 := hN5.below hk6 hN5.lt
            clear hWx hk6 hES5 hN5 hb5
            go_wp2_with (first
              | (refine wpList_yes rfl (fun K hK => ?_); refine wp_load_row endT _ rfl wr.heap.size rfl endT X (0, 0) _ hN6.out Try.underlying29 rfl (by rw [hZ]; rfl) ?_; refine hK _ _ ?_; clear hK K)
              | (refine wpList_yes rfl (fun K hK => ?_); refine wp_load_row endT _ rfl w5.heap.size rfl endT X (0, 0) _ hY6.out Try.underlying29 rfl (by rw [hZ]; rfl) ?_; refine hK _ _ ?_; clear hK K))
            go_roundw
            case rel => exact ⟨j + 1 + 1, by omega, by go_num, hES6, hb6⟩
            case measure => (simp [intOf]; try omega)
      · obtain rfl : k = all.length := by omega
        go_wp2
        go_ret
        exact ⟨rfl, hb⟩

/-! The frame of the law EveryWay, by program. -/
set_option maxRecDepth 100000 in
theorem everyWay_lifted (os : Os) (started : os.Started) (H : Type) (enc : TypeId × Value → H) :
    ReturnsInHanded {} Try.checked os 7 .any (Rows.everyWaySpec.pre6 enc Try.prog Try.f7 Rows.everyWayRow.domain false) (Rows.everyWaySpec.post enc Try.prog Try.f7 false true false false) := by
  refine returnsInHanded_of_change_shaped (C := Try.checked) frame_own started (by kernel_rfl) Try.func7
    (ChangeSpec.witness6 (enc := enc) (C := Try.checked) false ⟨#[], #[.slice none 0 0], []⟩ 8 (by kernel_rfl) (by kernel_rfl) (by kernel_rfl) (by kernel_rfl)) ?_
  intro W base args ds gs before hval0 hW hcnd hsz hshaped hroom
  clear hcnd hshaped
  have hval : ∀ (j : Nat) t v, Try.f7.params[j]? = some t → args[j]? = some v → Value.okWide Try.prog W .any base t v := hval0
  have hW' := hW
  obtain ⟨p, q, hA0, hV, rfl, hfz, hnd⟩ := hW
  have hA : DataW.TrodAll enc Try.prog W 0 (fun _ => true) true Try.f7.params.toList args.toList ds p := hA0
  rw [Try.params7] at hA hval
  obtain ⟨v0, vs0, d0, ds0, p0, q0, hargs, rfl, rfl, h0, r0⟩ := trodAll_cons hA
  obtain ⟨rfl, rfl, rfl⟩ := trodAll_nil r0
  obtain rfl : args = #[v0] := by cases args; simp_all
  obtain ⟨rfl, rfl⟩ := trodVars_none hV
  have k0 := h0
  have lt0 : ∀ x ∈ p0, x.block < W.heap.size := by obtain ⟨m, hm⟩ := k0; exact DataW.trod_lt m _ _ _ hm
  obtain ⟨a0, z0, c0, rfl, w0⟩ := open_prog (hval 0 22 v0 rfl rfl) h0 (fun n hn => of_decide_eq_true (List.all_eq_true.1 hsz _ (DataW.weights_mem_each (j := 0) rfl rfl n hn)))
  clear hA0 hval0
  refine (everyWay_walk a0 z0 c0 W w0).mono fun e W' ⟨he, bel⟩ => ?_
  subst he
  exact ⟨_, rfl, _, _, _, [], _, [], hW', trodAll_mk1 (shut_bool Try.underlying4 _), (trodAll_cons_mk (Below.trod frame_laid (by kernel_rfl) (of_decide_eq_true (by kernel_rfl)) k0 bel lt0) trodAll_mk0), rfl, bel.frame _, fun h => by cases h⟩

theorem everyWay_over : Rows.everyWayRow.holds Try.pinned (OpenSpec.ofChange Rows.everyWaySpec) :=
  OpenClaim.holds_of_wide 7 Try.f7 rfl rfl rfl rfl rfl rfl rfl ⟨rfl, rfl, rfl, rfl, rfl⟩ rfl rfl rfl rfl rfl (by kernel_rfl) Try.func7 (by kernel_rfl)
    (of_decide_eq_true (by kernel_rfl)) (by unfold Func.isWrapper; first | (rw [if_pos (by decide +kernel)]; kernel_rfl) | (rw [if_neg (by decide +kernel)]; exact ⟨rfl, rfl⟩))
    (fun os started H enc _ => everyWay_lifted os started H enc)

/-- The statement. -/
theorem everyWay_holds : Rows.EveryWaySaid := everyWay_over

end Go.Proofs.Ytoohconipcleiaa
