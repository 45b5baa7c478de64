/- EveryDining: two who take two locks each: it is stuck exactly where one of them takes them the other way round. -/
import Derived.Test.YtoohconipcleiaaRows
import Derived.Test.YtoohconipcleiaaMY
import Derived.Test.YtoohconipcleiaaEvG
import Derived.Test.YtoohconipcleiaaRest
import Derived.Test.YtoohconipcleiaaMF
import Derived.Test.YtoohconipcleiaaMI
import Derived.Deep.DeepCutAuto
import Derived.Deep.MidRow
import Derived.Test.YtoohconipcleiaaMT
namespace Go.Proofs.Ytoohconipcleiaa
open Go.ChangeShapes Go.WideShapes Go.ChangeAt Go.RowKit

/-! The plain law. -/
def allDone : List Int := [0, 0, 0, 0, 0, 1, 1, 1, 1]
def dineT (a b : Nat) (t : Bool) : Bool := chkE (dineP a b t) == 0 && doneB (dineP a b t) (runP (dineP a b t) allDone).1
set_option maxRecDepth 100000 in
theorem dine_done : ∀ a, a < 5 → ∀ b, b < 5 → a ≠ b → ∀ t, dineT a b t = true := by decide +kernel
set_option maxRecDepth 100000 in
theorem dine_stuck : ∀ a, a < 5 → ∀ b, b < 5 → a ≠ b → stuckB (dineP a b true) (runP (dineP a b true) [0, 0, 1]).1 = true := by decide +kernel
set_option maxRecDepth 100000 in
theorem dine_ring : ∀ a, a < 5 → ∀ b, b < 5 → a ≠ b → ringP (edgeP (allPr (dineP a b false))) = [] := by decide +kernel
def goodB (z : List Ev) : Bool := ((List.range z.length).all fun i => (ev0 z i).k != 7 && decide ((ev0 z i).t.toNat < 5) && ((ev0 z i).k != 4 || !(alN z i).1 (ev0 z i).t.toNat)) && (List.range 5).all fun L => !(alN z z.length).1 L
theorem goodB_Z {z : List Ev} (h : goodB z = true) : GoodZ z := by
  unfold goodB at h
  simp only [Bool.and_eq_true, List.all_eq_true, List.mem_range] at h
  obtain ⟨h1, h2⟩ := h
  refine ⟨fun i hi => ?_, fun i hi k4 => ?_, fun L => ?_⟩
  · have := (h1 i hi).1.1
    simpa using this
  · have := (h1 i hi).2
    rw [k4] at this
    simpa using this
  · by_cases hL : L < 5
    · have := h2 L hL
      simpa using this
    · cases c : (alN z z.length).1 L
      · rfl
      · obtain ⟨j, hj, _, he, _⟩ := (alN_held _ _ _).1 c
        have := (h1 j hj).1.2
        simp only [decide_eq_true_eq] at this
        omega
set_option maxRecDepth 100000 in
theorem dine_good : ∀ a, a < 5 → ∀ b, b < 5 → a ≠ b → ∀ t, t < 2 → goodB (opsP (dineP a b false) t) = true := by decide +kernel
theorem dine_goodZ {a b : Nat} (ha : a < 5) (hb : b < 5) (hn : a ≠ b) (t : Nat) (ht : t < (dineP a b false).length) : GoodZ (opsP (dineP a b false) t) := goodB_Z (dine_good a ha b hb hn t ht)
theorem AllE.done {p : List (List Ev)} {all : List EnD} (h : AllE p all) (picks : List Int) (hd : doneB p (runP p picks).1 = true) : ∃ x ∈ all, x.2.1 = true := by
  obtain ⟨x, hx, e⟩ := inE_iff.1 (h.has picks (by unfold lastB; rw [hd]; rfl))
  refine ⟨x, hx, ?_⟩
  have h1 := endC_get x.1 x.2.1 x.2.2 (i := 18) (by omega)
  have h2 := endC_get (runP p picks).1 (doneB p (runP p picks).1) (stuckB p (runP p picks).1) (i := 18) (by omega)
  have e' : endC x.1 x.2.1 x.2.2 = endC (runP p picks).1 (doneB p (runP p picks).1) (stuckB p (runP p picks).1) := e
  rw [e', h2] at h1
  have h3 : (some (Value.bool (doneB p (runP p picks).1)) : Option Value) = some (.bool x.2.1) := h1
  rw [hd] at h3
  injection h3 with h3
  injection h3 with h3
  exact h3.symm
theorem AllE.stuck {p : List (List Ev)} {all : List EnD} (h : AllE p all) (picks : List Int) (hd : stuckB p (runP p picks).1 = true) : ∃ x ∈ all, x.2.2 = true := by
  obtain ⟨x, hx, e⟩ := inE_iff.1 (h.has picks (by unfold lastB; rw [hd, Bool.or_true]))
  refine ⟨x, hx, ?_⟩
  have h1 := endC_get x.1 x.2.1 x.2.2 (i := 19) (by omega)
  have h2 := endC_get (runP p picks).1 (doneB p (runP p picks).1) (stuckB p (runP p picks).1) (i := 19) (by omega)
  have e' : endC x.1 x.2.1 x.2.2 = endC (runP p picks).1 (doneB p (runP p picks).1) (stuckB p (runP p picks).1) := e
  rw [e', h2] at h1
  have h3 : (some (Value.bool (stuckB p (runP p picks).1)) : Option Value) = some (.bool x.2.2) := h1
  rw [hd] at h3
  injection h3 with h3
  injection h3 with h3
  exact h3.symm
def anyD (all : List EnD) (k : Nat) : Bool := (all.take k).any (·.2.1)
def anyS (all : List EnD) (k : Nat) : Bool := (all.take k).any (·.2.2)
theorem anyD_succ {all : List EnD} {k : Nat} (h : k < all.length) : anyD all (k + 1) = (anyD all k || all[k].2.1) := by
  unfold anyD
  rw [List.take_add_one, List.getElem?_eq_getElem h, List.any_append]
  simp
theorem anyS_succ {all : List EnD} {k : Nat} (h : k < all.length) : anyS all (k + 1) = (anyS all k || all[k].2.2) := by
  unfold anyS
  rw [List.take_add_one, List.getElem?_eq_getElem h, List.any_append]
  simp
theorem dine_check {a b : Nat} (ha : a < 5) (hb : b < 5) (hn : a ≠ b) (t : Bool) : chkE (dineP a b t) = 0 := by
  have := dine_done a ha b hb hn t
  unfold dineT at this
  simp only [Bool.and_eq_true, beq_iff_eq] at this
  exact this.1
theorem dine_law {a b : Nat} (ha : a < 5) (hb : b < 5) (hn : a ≠ b) {t : Bool} {all : List EnD} (h : AllE (dineP a b t) all) : anyD all all.length = true ∧ anyS all all.length = t := by
  unfold anyD anyS
  rw [List.take_length]
  constructor
  · have := dine_done a ha b hb hn t
    unfold dineT at this
    simp only [Bool.and_eq_true, beq_iff_eq] at this
    obtain ⟨x, hx, e⟩ := h.done allDone this.2
    exact List.any_eq_true.2 ⟨x, hx, e⟩
  · cases t
    · rw [List.any_eq_false]
      intro x hx
      obtain ⟨s, picks, h1, h2, _⟩ := h.of hx
      rw [h2, ← h1.run]
      have : stuckB (dineP a b false) (runP (dineP a b false) picks).1 = false := goes_on h.ok (dine_goodZ ha hb hn) (dine_ring a ha b hb hn) picks
      show ¬ stuckB _ _ = true
      rw [this]
      simp
    · obtain ⟨x, hx, e⟩ := h.stuck [0, 0, 1] (dine_stuck a ha b hb hn)
      exact List.any_eq_true.2 ⟨x, hx, e⟩

/-! The walk. -/
theorem infoOpD : (Try.prog.info? 40).map (fun i => (i.zero, i.size, i.bytes)) = some (some (evV ⟨0, 0, 0⟩), 3, 24) := by kernel_rfl
theorem eats_any (a b : Nat) (w : World) : Calls Try.prog 24 #[.int .i64 (a : Int), .int .i64 (b : Int)] w fun r w' => r = .returned (.slice (some ⟨w.heap.size, 0, none⟩) 4 4) ∧ w' = w.alloc (.cells (evL (eatsP a b)).toArray 40) := by
  go_enter Try.func24, Try.ntmps24
  go_wp2
  go_ret
  exact ⟨rfl, rfl⟩
set_option maxRecDepth 100000 in
set_option maxHeartbeats 8000000 in
theorem everyDining_walk (a b : Int) (t : Bool) (w : World) (_ : I64 a) (_ : I64 b) :
    Calls Try.prog 5 #[.int .i64 a, .int .i64 b, .bool t] w fun e w' => e = .returned (.bool true) ∧ Below w.heap.size w w' := by
  obtain ⟨i0, hi, hz0, hz1, hz2⟩ := info_parts infoOpD
  go_enter Try.func5, Try.ntmps5
  go_wp2_with fail
  refine (everied_any _).mono ?_
  rintro r w4 ⟨rfl, hb4⟩
  go_wp2_with fail
  refine (rest_any a 5 _ (by omega) (by omega)).mono ?_
  rintro r w5 ⟨rfl, rfl⟩
  go_wp2_with fail
  refine (rest_any b 5 _ (by omega) (by omega)).mono ?_
  rintro r w6 ⟨rfl, rfl⟩
  obtain ⟨A, hA⟩ := Int.eq_ofNat_of_zero_le (Int.emod_nonneg a (show (5 : Int) ≠ 0 by omega))
  obtain ⟨B, hB⟩ := Int.eq_ofNat_of_zero_le (Int.emod_nonneg b (show (5 : Int) ≠ 0 by omega))
  have hA5 : A < 5 := by have := Int.emod_lt_of_pos a (show (0 : Int) < 5 by omega); omega
  have hB5 : B < 5 := by have := Int.emod_lt_of_pos b (show (0 : Int) < 5 by omega); omega
  rw [hA, hB]
  clear hA hB
  by_cases hAB : A = B
  · subst hAB
    go_wp2
    go_ret
    exact ⟨rfl, hb4⟩
  · have r1 : ((A : Int) == B) = false := beq_eq_false_iff_ne.2 (by omega)
    have r2 : decide ((A : Int) = B) = false := decide_eq_false (by omega)
    have HAB := Lib.hid hAB
    clear hAB
    go_wp2_with fail
    refine (eats_any A B _).mono ?_
    rintro r w6 ⟨rfl, rfl⟩
    generalize hW6 : World.alloc w6 _ = W6
    have hO6 : Has W6 w6.heap.size (evC ⟨6, 1, 0⟩) 40 := by rw [← hW6]; exact Has.new w6 _ _
    have hk6 : Below w6.heap.size w6 W6 := by rw [← hW6]; exact (Below.refl _ _).alloc (Nat.le_refl _) _
    clear hW6
    have hown := own_full (base := w6.heap.size) (size := 3) (n := 1) hO6 (Nat.le_refl _) rfl (by decide)
    have hE7 := evS_full (l := eatsP A B) (Has.new W6 (evL (eatsP A B)).toArray 40) rfl (by simp [eatsP])
    have hs6 := hk6.size
    have hk7 := hk6.alloc hs6 (.cells (evL (eatsP A B)).toArray 40)
    have hown7 := hown.alloc (.cells (evL (eatsP A B)).toArray 40)
    generalize W6.alloc (.cells (evL (eatsP A B)).toArray 40) = W7 at *
    clear hO6 hown
    go_wp2_with (at_builtin; refine app_list _ rfl (.tmp 25) (.tmp 29) 38 rfl Try.underlying38 hi hz0 hz1 hz2 rfl (by decide) rfl hown7 rfl (m := 4) (news := evL (eatsP A B)) hE7.src (evL_one _) (by unfold maxLen; omega) (by omega) hk7.size ?_)
    intro v' w8 hAp
    have hk8 := hAp.below hown7 hk7 hk7.size
    have ho8 : w8.ownsRow w6.heap.size 40 3 v' (⟨6, 1, 0⟩ :: eatsP A B : List Ev).length (evL (⟨6, 1, 0⟩ :: eatsP A B)) := hAp.own
    clear hAp hown7 hE7 hk7
    obtain ⟨a8, c8, rfl, hS8, _⟩ := evS_own ho8 (by simp [eatsP])
    have HL := Lib.hid (show (⟨6, 1, 0⟩ :: eatsP A B : List Ev).length = 5 from rfl)
    rw [HL.out]
    clear ho8
    go_wp2_with fail
    refine (eats_any A B _).mono ?_
    rintro r w9 ⟨rfl, rfl⟩
    have hE9 := evS_full (l := eatsP A B) (Has.new w8 (evL (eatsP A B)).toArray 40) rfl (by simp [eatsP])
    have hk9 := hk8.alloc hk8.size (.cells (evL (eatsP A B)).toArray 40)
    have hS9 := hS8.below ((Below.refl _ _).alloc (Nat.le_refl _) (.cells (evL (eatsP A B)).toArray 40))
    generalize w8.heap.size = g9 at *
    generalize w8.alloc (.cells (evL (eatsP A B)).toArray 40) = w9 at *
    clear hS8 hk8
    go_upto_region 8 with fail
    generalize hWA : World.alloc w9 _ = WA
    have hRA : Has WA w9.heap.size #[.slice a8 5 c8, .slice (some ⟨g9, 0, none⟩) 4 4] 38 := by rw [← hWA]; exact Has.new w9 _ _
    have hbA : Below w9.heap.size w9 WA := by rw [← hWA]; exact (Below.refl _ _).alloc (Nat.le_refl _) _
    clear hWA
    have hkA := hk9.trans (hbA.mono hk9.size)
    have hSA := hS9.below hbA
    have hEA := hE9.below hbA
    have hsz9 := hk9.size
    have hwsz := hb4.size
    have hfin := hb4.trans (hkA.mono hb4.size)
    have hend : ∀ (p : List (List Ev)) (ap : Option Addr) (w3 : World), PgS w3 ap p → p.length = 2 → Calls Try.prog 25 #[.slice ap 2 2] w3 (EndsP p w3) := fun p ap w3 h he => by
      have := ends_any p ap 2 w3 h
      rwa [he] at this
    have hS9f := fun W' (h : Below w9.heap.size w9 W') => hS9.below h
    clear hk9 hS9 hE9 hkA hs6 hk6 hb4
    generalize w9.heap.size = gA at *
    cases t
    · have hP : PgS WA (some ⟨gA, 0, none⟩) (dineP A B false) := by
        refine ⟨by show 2 < _; decide, .inr ⟨gA, 0, rfl, fun t ht => ?_⟩⟩
        have ht2 : t < 2 := ht
        rcases (by omega : t = 0 ∨ t = 1) with rfl | rfl
        · exact ⟨a8, c8, hRA.cell rfl, hSA⟩
        · exact ⟨_, 4, hRA.cell rfl, hEA⟩
      have hE := hend _ _ _ hP rfl
      clear hend hSA hEA hRA
      go_wp2_with fail
      refine hE.mono ?_
      rintro r w2 ⟨hk2, hQ⟩
      have hfin2 := hfin.trans (hk2.mono hfin.size)
      rcases hQ with ⟨h0, _⟩ | ⟨hch, all, aE, cE, hA, rfl, hES, hnum⟩
      · exact absurd (dine_check hA5 hB5 HAB.out false) h0
      · have HLaw := Lib.hid (dine_law hA5 hB5 HAB.out hA)
        have hbig := hES.big
        clear hk2 hch hA hnum hE hP hfin HAB hA5 hB5 r1 r2
        go_wp2
        go_loopw [11, 12, 50] (fun u v i wr => ∃ k : Nat, k ≤ all.length ∧ i = .int .i64 k ∧ u = .bool (anyS all k) ∧ v = .bool (anyD all k) ∧ EnS wr aE all ∧ Below w.heap.size w wr) (fun _ _ i _ => all.length - (intOf i).toNat)
        case atStart => exact ⟨0, Nat.zero_le _, rfl, rfl, rfl, hES, hfin2⟩
        case round =>
          clear hES hfin2
          obtain ⟨k, hk, rfl, rfl, rfl, hES, hb⟩ := hrel
          by_cases hlt : k < all.length
          · obtain ⟨b, o, rfl, hr⟩ := hES.at hlt
            have k0 : (0 : Int) ≤ k := by omega
            have k1 : (k : Int) < all.length := by omega
            have hE18 : (enE all[k])[18]? = some (.bool all[k].2.1) := endC_get _ _ _ (by omega)
            have hE19 : (enE all[k])[19]? = some (.bool all[k].2.2) := endC_get _ _ _ (by omega)
            have HS1 := Lib.hid (anyS_succ hlt)
            have HD1 := Lib.hid (anyD_succ hlt)
            have hZ := enE_size all[k]
            have hZ1 := enE_one all[k]
            have hz20 := endC_size PS.zero false false
            generalize all[k] = x at *
            go_upto_region 15 with (first
              | (refine wpList_load_mid rfl endT _ rfl b (o + k * 20) rfl (enE x).toList _ hr Try.underlying29 rfl (by rw [Array.length_toList, hZ]; rfl) ?_; rw [Array.toArray_toList])
              | (refine wpList_store_row rfl endT _ _ rfl wr.heap.size (enE x) rfl rfl endT _ (Has.new wr (endC PS.zero false false) endT).out (by rw [hZ]; rfl) (by rw [hZ, hz20]) hZ1 ?_))
            generalize hWx : World.setRow _ _ _ = W2
            have hN2 : Has W2 wr.heap.size (enE x) endT := by rw [← hWx]; exact (Has.new wr (endC PS.zero false false) endT).setRow
            have hk2 : Below wr.heap.size wr W2 := by rw [← hWx]; exact below_setRow ((Below.refl _ _).alloc (Nat.le_refl _) _) (Nat.le_refl _)
            have hb2 := hb.trans (hk2.mono hb.size)
            have hES2 := hES.below hk2
            clear hWx hk2 hES hr hb hz20
            obtain ⟨D, hDe⟩ : ∃ D, x.2.1 = D := ⟨_, rfl⟩
            obtain ⟨S, hSe⟩ : ∃ S, x.2.2 = S := ⟨_, rfl⟩
            rw [hDe] at hE18 HD1
            rw [hSe] at hE19 HS1
            obtain ⟨aD, haD⟩ : ∃ q, anyD all k = q := ⟨_, rfl⟩
            obtain ⟨aS, haS⟩ : ∃ q, anyS all k = q := ⟨_, rfl⟩
            rw [haD] at HD1 ⊢
            rw [haS] at HS1 ⊢
            have F1 : ∀ w3, Below W2.heap.size W2 w3 → w3.cell? ⟨wr.heap.size, 18, none⟩ = some (.bool D) := fun w3 h3 => (hN2.below h3 hN2.lt).cell hE18
            have F2 : ∀ w3, Below W2.heap.size W2 w3 → w3.cell? ⟨wr.heap.size, 19, none⟩ = some (.bool S) := fun w3 h3 => (hN2.below h3 hN2.lt).cell hE19
            clear hDe hSe haD haS
            cases aS <;> cases aD
            · clear hZ1
              refine wp_region_fac 11 (fun _ => false) [.one ?x100, .one ?x101, .one ?x102, .one ?x103, .one ?x104, .one ?x105, .one ?x106, .one ?x107, .one ?x108, .one ?x109, .one ?x1010] (by kernel_rfl) (by kernel_rfl) (by kernel_rfl) (by intro F hF; simp at hF) ?gox10
              case gox10 =>
              simp only [List.take_succ_cons, List.take_zero, List.drop_succ_cons, List.drop_zero]
              repeat (with_reducible refine wpFac_one rfl (fun w1 hw1 hd => ?_) (fun a1 ha1 => ?_); (· have eF1 := F1 w1 hw1; have eF2 := F2 w1 hw1; go_simp; first | exact rfl | (refine ⟨atD_some ?_, Below.refl _ _⟩; simp only [List.getElem?_toArray, List.getElem?_cons_succ, List.getElem?_cons_zero]; exact rfl)); simp [Act.put] at ha1; subst ha1)
              refine wpFac_nil ?_
              intro w3 hw3 _
              have hb3 := hb2.trans (hw3.mono hb2.size)
              have hES3 := hES2.below hw3
              clear F1 F2 hw3 hES2 hN2 hE18 hE19 hb2
              go_wp2
              go_roundw
              case rel => exact ⟨k + 1, by omega, by go_num, by rw [HS1.out]; rfl, by rw [HD1.out]; rfl, hES3, hb3⟩
              case measure => (simp [intOf]; try omega)
            · clear hZ1
              refine wp_region_fac 11 (fun _ => false) [.one ?x110, .one ?x111, .one ?x112, .one ?x113, .one ?x114, .one ?x115, .one ?x116, .one ?x117, .one ?x118, .one ?x119, .one ?x1110] (by kernel_rfl) (by kernel_rfl) (by kernel_rfl) (by intro F hF; simp at hF) ?gox11
              case gox11 =>
              simp only [List.take_succ_cons, List.take_zero, List.drop_succ_cons, List.drop_zero]
              repeat (with_reducible refine wpFac_one rfl (fun w1 hw1 hd => ?_) (fun a1 ha1 => ?_); (· have eF1 := F1 w1 hw1; have eF2 := F2 w1 hw1; go_simp; first | exact rfl | (refine ⟨atD_some ?_, Below.refl _ _⟩; simp only [List.getElem?_toArray, List.getElem?_cons_succ, List.getElem?_cons_zero]; exact rfl)); simp [Act.put] at ha1; subst ha1)
              refine wpFac_nil ?_
              intro w3 hw3 _
              have hb3 := hb2.trans (hw3.mono hb2.size)
              have hES3 := hES2.below hw3
              clear F1 F2 hw3 hES2 hN2 hE18 hE19 hb2
              go_wp2
              go_roundw
              case rel => exact ⟨k + 1, by omega, by go_num, by rw [HS1.out]; rfl, by rw [HD1.out]; rfl, hES3, hb3⟩
              case measure => (simp [intOf]; try omega)
            · clear hZ1
              refine wp_region_fac 11 (fun _ => false) [.one ?x120, .one ?x121, .one ?x122, .one ?x123, .one ?x124, .one ?x125, .one ?x126, .one ?x127, .one ?x128, .one ?x129, .one ?x1210] (by kernel_rfl) (by kernel_rfl) (by kernel_rfl) (by intro F hF; simp at hF) ?gox12
              case gox12 =>
              simp only [List.take_succ_cons, List.take_zero, List.drop_succ_cons, List.drop_zero]
              repeat (with_reducible refine wpFac_one rfl (fun w1 hw1 hd => ?_) (fun a1 ha1 => ?_); (· have eF1 := F1 w1 hw1; have eF2 := F2 w1 hw1; go_simp; first | exact rfl | (refine ⟨atD_some ?_, Below.refl _ _⟩; simp only [List.getElem?_toArray, List.getElem?_cons_succ, List.getElem?_cons_zero]; exact rfl)); simp [Act.put] at ha1; subst ha1)
              refine wpFac_nil ?_
              intro w3 hw3 _
              have hb3 := hb2.trans (hw3.mono hb2.size)
              have hES3 := hES2.below hw3
              clear F1 F2 hw3 hES2 hN2 hE18 hE19 hb2
              go_wp2
              go_roundw
              case rel => exact ⟨k + 1, by omega, by go_num, by rw [HS1.out]; rfl, by rw [HD1.out]; rfl, hES3, hb3⟩
              case measure => (simp [intOf]; try omega)
            · clear hZ1
              refine wp_region_fac 11 (fun _ => false) [.one ?x130, .one ?x131, .one ?x132, .one ?x133, .one ?x134, .one ?x135, .one ?x136, .one ?x137, .one ?x138, .one ?x139, .one ?x1310] (by kernel_rfl) (by kernel_rfl) (by kernel_rfl) (by intro F hF; simp at hF) ?gox13
              case gox13 =>
              simp only [List.take_succ_cons, List.take_zero, List.drop_succ_cons, List.drop_zero]
              repeat (with_reducible refine wpFac_one rfl (fun w1 hw1 hd => ?_) (fun a1 ha1 => ?_); (· have eF1 := F1 w1 hw1; have eF2 := F2 w1 hw1; go_simp; first | exact rfl | (refine ⟨atD_some ?_, Below.refl _ _⟩; simp only [List.getElem?_toArray, List.getElem?_cons_succ, List.getElem?_cons_zero]; exact rfl)); simp [Act.put] at ha1; subst ha1)
              refine wpFac_nil ?_
              intro w3 hw3 _
              have hb3 := hb2.trans (hw3.mono hb2.size)
              have hES3 := hES2.below hw3
              clear F1 F2 hw3 hES2 hN2 hE18 hE19 hb2
              go_wp2
              go_roundw
              case rel => exact ⟨k + 1, by omega, by go_num, by rw [HS1.out]; rfl, by rw [HD1.out]; rfl, hES3, hb3⟩
              case measure => (simp [intOf]; try omega)
          · obtain rfl : k = all.length := by omega
            rw [HLaw.out.1, HLaw.out.2]
            go_wp2
            go_ret
            exact ⟨rfl, hb⟩
    · go_wp2_with fail
      refine (eats_any B A _).mono ?_
      rintro r wB ⟨rfl, rfl⟩
      have hEB := Has.new WA (evL (eatsP B A)).toArray 40
      have hgl := hRA.lt
      have hbB : Below WA.heap.size WA (WA.alloc (.cells (evL (eatsP B A)).toArray 40)) := (Below.refl _ _).alloc (Nat.le_refl _) _
      have hRB := hRA.below hbB hRA.lt
      have hkB := hbA.trans (hbB.mono (Nat.le_of_lt hRA.lt))
      have hfB := hfin.trans (hbB.mono hfin.size)
      generalize WA.heap.size = gB at *
      generalize WA.alloc (.cells (evL (eatsP B A)).toArray 40) = WB at *
      clear hSA hEA hRA hfin hbB
      have hf := hRB.free 1
      have hc1 : WB.cell? ⟨gA, 1, none⟩ = some (.slice (some ⟨g9, 0, none⟩) 4 4) := hRB.cell rfl
      go_upto_region 10 with fail
      generalize hWC : World.setCell WB _ _ = WC
      have hRC : Has WC gA #[.slice a8 5 c8, .slice (some ⟨gB, 0, none⟩) 4 4] 38 := by rw [← hWC]; exact (hRB.setCell 1 _).to rfl
      have hkC : Below gA w9 WC := by rw [← hWC]; exact hkB.setCell (Nat.le_refl _) _
      have hSC := hS9f WC hkC
      have hEC : EvS WC (some ⟨gB, 0, none⟩) (eatsP B A) := evS_full (by rw [← hWC]; exact hEB.setCell_ne (by simp; omega) _) rfl (by simp [eatsP])
      have hfin : Below w.heap.size w WC := by rw [← hWC]; exact hfB.setCell (show w.heap.size ≤ gA by omega) _
      clear hRB hkB hEB hfB hWC hf hc1 hS9f
      have hP : PgS WC (some ⟨gA, 0, none⟩) (dineP A B true) := by
        refine ⟨by show 2 < _; decide, .inr ⟨gA, 0, rfl, fun t ht => ?_⟩⟩
        have ht2 : t < 2 := ht
        rcases (by omega : t = 0 ∨ t = 1) with rfl | rfl
        · exact ⟨a8, c8, hRC.cell rfl, hSC⟩
        · exact ⟨_, 4, hRC.cell rfl, hEC⟩
      have hE := hend _ _ _ hP rfl
      clear hend hSC hEC hRC hkC
      go_wp2_with fail
      refine hE.mono ?_
      rintro r w2 ⟨hk2, hQ⟩
      have hfin2 := hfin.trans (hk2.mono hfin.size)
      rcases hQ with ⟨h0, _⟩ | ⟨hch, all, aE, cE, hA, rfl, hES, hnum⟩
      · exact absurd (dine_check hA5 hB5 HAB.out true) h0
      · have HLaw := Lib.hid (dine_law hA5 hB5 HAB.out hA)
        have hbig := hES.big
        clear hk2 hch hA hnum hE hP hfin HAB hA5 hB5 r1 r2
        go_wp2
        go_loopw [11, 12, 50] (fun u v i wr => ∃ k : Nat, k ≤ all.length ∧ i = .int .i64 k ∧ u = .bool (anyS all k) ∧ v = .bool (anyD all k) ∧ EnS wr aE all ∧ Below w.heap.size w wr) (fun _ _ i _ => all.length - (intOf i).toNat)
        case atStart => exact ⟨0, Nat.zero_le _, rfl, rfl, rfl, hES, hfin2⟩
        case round =>
          clear hES hfin2
          obtain ⟨k, hk, rfl, rfl, rfl, hES, hb⟩ := hrel
          by_cases hlt : k < all.length
          · obtain ⟨b, o, rfl, hr⟩ := hES.at hlt
            have k0 : (0 : Int) ≤ k := by omega
            have k1 : (k : Int) < all.length := by omega
            have hE18 : (enE all[k])[18]? = some (.bool all[k].2.1) := endC_get _ _ _ (by omega)
            have hE19 : (enE all[k])[19]? = some (.bool all[k].2.2) := endC_get _ _ _ (by omega)
            have HS1 := Lib.hid (anyS_succ hlt)
            have HD1 := Lib.hid (anyD_succ hlt)
            have hZ := enE_size all[k]
            have hZ1 := enE_one all[k]
            have hz20 := endC_size PS.zero false false
            generalize all[k] = x at *
            go_upto_region 15 with (first
              | (refine wpList_load_mid rfl endT _ rfl b (o + k * 20) rfl (enE x).toList _ hr Try.underlying29 rfl (by rw [Array.length_toList, hZ]; rfl) ?_; rw [Array.toArray_toList])
              | (refine wpList_store_row rfl endT _ _ rfl wr.heap.size (enE x) rfl rfl endT _ (Has.new wr (endC PS.zero false false) endT).out (by rw [hZ]; rfl) (by rw [hZ, hz20]) hZ1 ?_))
            generalize hWx : World.setRow _ _ _ = W2
            have hN2 : Has W2 wr.heap.size (enE x) endT := by rw [← hWx]; exact (Has.new wr (endC PS.zero false false) endT).setRow
            have hk2 : Below wr.heap.size wr W2 := by rw [← hWx]; exact below_setRow ((Below.refl _ _).alloc (Nat.le_refl _) _) (Nat.le_refl _)
            have hb2 := hb.trans (hk2.mono hb.size)
            have hES2 := hES.below hk2
            clear hWx hk2 hES hr hb hz20
            obtain ⟨D, hDe⟩ : ∃ D, x.2.1 = D := ⟨_, rfl⟩
            obtain ⟨S, hSe⟩ : ∃ S, x.2.2 = S := ⟨_, rfl⟩
            rw [hDe] at hE18 HD1
            rw [hSe] at hE19 HS1
            obtain ⟨aD, haD⟩ : ∃ q, anyD all k = q := ⟨_, rfl⟩
            obtain ⟨aS, haS⟩ : ∃ q, anyS all k = q := ⟨_, rfl⟩
            rw [haD] at HD1 ⊢
            rw [haS] at HS1 ⊢
            have F1 : ∀ w3, Below W2.heap.size W2 w3 → w3.cell? ⟨wr.heap.size, 18, none⟩ = some (.bool D) := fun w3 h3 => (hN2.below h3 hN2.lt).cell hE18
            have F2 : ∀ w3, Below W2.heap.size W2 w3 → w3.cell? ⟨wr.heap.size, 19, none⟩ = some (.bool S) := fun w3 h3 => (hN2.below h3 hN2.lt).cell hE19
            clear hDe hSe haD haS
            cases aS <;> cases aD
            · clear hZ1
              refine wp_region_fac 11 (fun _ => false) [.one ?x200, .one ?x201, .one ?x202, .one ?x203, .one ?x204, .one ?x205, .one ?x206, .one ?x207, .one ?x208, .one ?x209, .one ?x2010] (by kernel_rfl) (by kernel_rfl) (by kernel_rfl) (by intro F hF; simp at hF) ?gox20
              case gox20 =>
              simp only [List.take_succ_cons, List.take_zero, List.drop_succ_cons, List.drop_zero]
              repeat (with_reducible refine wpFac_one rfl (fun w1 hw1 hd => ?_) (fun a1 ha1 => ?_); (· have eF1 := F1 w1 hw1; have eF2 := F2 w1 hw1; go_simp; first | exact rfl | (refine ⟨atD_some ?_, Below.refl _ _⟩; simp only [List.getElem?_toArray, List.getElem?_cons_succ, List.getElem?_cons_zero]; exact rfl)); simp [Act.put] at ha1; subst ha1)
              refine wpFac_nil ?_
              intro w3 hw3 _
              have hb3 := hb2.trans (hw3.mono hb2.size)
              have hES3 := hES2.below hw3
              clear F1 F2 hw3 hES2 hN2 hE18 hE19 hb2
              go_wp2
              go_roundw
              case rel => exact ⟨k + 1, by omega, by go_num, by rw [HS1.out]; rfl, by rw [HD1.out]; rfl, hES3, hb3⟩
              case measure => (simp [intOf]; try omega)
            · clear hZ1
              refine wp_region_fac 11 (fun _ => false) [.one ?x210, .one ?x211, .one ?x212, .one ?x213, .one ?x214, .one ?x215, .one ?x216, .one ?x217, .one ?x218, .one ?x219, .one ?x2110] (by kernel_rfl) (by kernel_rfl) (by kernel_rfl) (by intro F hF; simp at hF) ?gox21
              case gox21 =>
              simp only [List.take_succ_cons, List.take_zero, List.drop_succ_cons, List.drop_zero]
              repeat (with_reducible refine wpFac_one rfl (fun w1 hw1 hd => ?_) (fun a1 ha1 => ?_); (· have eF1 := F1 w1 hw1; have eF2 := F2 w1 hw1; go_simp; first | exact rfl | (refine ⟨atD_some ?_, Below.refl _ _⟩; simp only [List.getElem?_toArray, List.getElem?_cons_succ, List.getElem?_cons_zero]; exact rfl)); simp [Act.put] at ha1; subst ha1)
              refine wpFac_nil ?_
              intro w3 hw3 _
              have hb3 := hb2.trans (hw3.mono hb2.size)
              have hES3 := hES2.below hw3
              clear F1 F2 hw3 hES2 hN2 hE18 hE19 hb2
              go_wp2
              go_roundw
              case rel => exact ⟨k + 1, by omega, by go_num, by rw [HS1.out]; rfl, by rw [HD1.out]; rfl, hES3, hb3⟩
              case measure => (simp [intOf]; try omega)
            · clear hZ1
              refine wp_region_fac 11 (fun _ => false) [.one ?x220, .one ?x221, .one ?x222, .one ?x223, .one ?x224, .one ?x225, .one ?x226, .one ?x227, .one ?x228, .one ?x229, .one ?x2210] (by kernel_rfl) (by kernel_rfl) (by kernel_rfl) (by intro F hF; simp at hF) ?gox22
              case gox22 =>
              simp only [List.take_succ_cons, List.take_zero, List.drop_succ_cons, List.drop_zero]
              repeat (with_reducible refine wpFac_one rfl (fun w1 hw1 hd => ?_) (fun a1 ha1 => ?_); (· have eF1 := F1 w1 hw1; have eF2 := F2 w1 hw1; go_simp; first | exact rfl | (refine ⟨atD_some ?_, Below.refl _ _⟩; simp only [List.getElem?_toArray, List.getElem?_cons_succ, List.getElem?_cons_zero]; exact rfl)); simp [Act.put] at ha1; subst ha1)
              refine wpFac_nil ?_
              intro w3 hw3 _
              have hb3 := hb2.trans (hw3.mono hb2.size)
              have hES3 := hES2.below hw3
              clear F1 F2 hw3 hES2 hN2 hE18 hE19 hb2
              go_wp2
              go_roundw
              case rel => exact ⟨k + 1, by omega, by go_num, by rw [HS1.out]; rfl, by rw [HD1.out]; rfl, hES3, hb3⟩
              case measure => (simp [intOf]; try omega)
            · clear hZ1
              refine wp_region_fac 11 (fun _ => false) [.one ?x230, .one ?x231, .one ?x232, .one ?x233, .one ?x234, .one ?x235, .one ?x236, .one ?x237, .one ?x238, .one ?x239, .one ?x2310] (by kernel_rfl) (by kernel_rfl) (by kernel_rfl) (by intro F hF; simp at hF) ?gox23
              case gox23 =>
              simp only [List.take_succ_cons, List.take_zero, List.drop_succ_cons, List.drop_zero]
              repeat (with_reducible refine wpFac_one rfl (fun w1 hw1 hd => ?_) (fun a1 ha1 => ?_); (· have eF1 := F1 w1 hw1; have eF2 := F2 w1 hw1; go_simp; first | exact rfl | (refine ⟨atD_some ?_, Below.refl _ _⟩; simp only [List.getElem?_toArray, List.getElem?_cons_succ, List.getElem?_cons_zero]; exact rfl)); simp [Act.put] at ha1; subst ha1)
              refine wpFac_nil ?_
              intro w3 hw3 _
              have hb3 := hb2.trans (hw3.mono hb2.size)
              have hES3 := hES2.below hw3
              clear F1 F2 hw3 hES2 hN2 hE18 hE19 hb2
              go_wp2
              go_roundw
              case rel => exact ⟨k + 1, by omega, by go_num, by rw [HS1.out]; rfl, by rw [HD1.out]; rfl, hES3, hb3⟩
              case measure => (simp [intOf]; try omega)
          · obtain rfl : k = all.length := by omega
            rw [HLaw.out.1, HLaw.out.2]
            go_wp2
            go_ret
            exact ⟨rfl, hb⟩
/-! The frame of the law EveryDining, by program. -/
set_option maxRecDepth 100000 in
theorem everyDining_lifted (os : Os) (started : os.Started) (H : Type) (enc : TypeId × Value → H) :
    ReturnsInHanded {} Try.checked os 5 .any (Rows.everyDiningSpec.pre6 enc Try.prog Try.f5 Rows.everyDiningRow.domain false) (Rows.everyDiningSpec.post enc Try.prog Try.f5 false true false false) := by
  refine returnsInHanded_of_change_shaped (C := Try.checked) frame_own started (by kernel_rfl) Try.func5
    (ChangeSpec.witness6 (enc := enc) (C := Try.checked) false ⟨#[], #[.int .i64 0, .int .i64 0, .bool false], []⟩ 8 (by kernel_rfl) (by kernel_rfl) (by kernel_rfl) (by kernel_rfl)) ?_
  intro W base args ds gs before hval0 hW hcnd hsz hshaped hroom
  clear hcnd hshaped
  have hval : ∀ (j : Nat) t v, Try.f5.params[j]? = some t → args[j]? = some v → Value.okWide Try.prog W .any base t v := hval0
  have hW' := hW
  obtain ⟨p, q, hA0, hV, rfl, hfz, hnd⟩ := hW
  have hA : DataW.TrodAll enc Try.prog W 0 (fun _ => true) true Try.f5.params.toList args.toList ds p := hA0
  rw [Try.params5] at hA hval
  obtain ⟨v0, vs0, d0, ds0, p0, q0, hargs, rfl, rfl, h0, r0⟩ := trodAll_cons hA
  obtain ⟨v1, vs1, d1, ds1, p1, q1, rfl, rfl, rfl, h1, r1⟩ := trodAll_cons r0
  obtain ⟨v2, vs2, d2, ds2, p2, q2, rfl, rfl, rfl, h2, r2⟩ := trodAll_cons r1
  obtain ⟨rfl, rfl, rfl⟩ := trodAll_nil r2
  obtain rfl : args = #[v0, v1, v2] := by cases args; simp_all
  obtain ⟨rfl, rfl⟩ := trodVars_none hV
  have k0 := h0
  have lt0 : ∀ x ∈ p0, x.block < W.heap.size := by obtain ⟨m, hm⟩ := k0; exact DataW.trod_lt m _ _ _ hm
  obtain ⟨a0, rfl, rfl, rfl, w0⟩ := open_int Try.underlying3 (hval 0 3 v0 rfl rfl) h0
  have k1 := h1
  have lt1 : ∀ x ∈ p1, x.block < W.heap.size := by obtain ⟨m, hm⟩ := k1; exact DataW.trod_lt m _ _ _ hm
  obtain ⟨a1, rfl, rfl, rfl, w1⟩ := open_int Try.underlying3 (hval 1 3 v1 rfl rfl) h1
  have k2 := h2
  have lt2 : ∀ x ∈ p2, x.block < W.heap.size := by obtain ⟨m, hm⟩ := k2; exact DataW.trod_lt m _ _ _ hm
  obtain ⟨a2, rfl, rfl, rfl⟩ := open_bool Try.underlying4 (hval 2 4 v2 rfl rfl) h2
  clear hA0 hval0
  refine (everyDining_walk a0 a1 a2 W (wf_i64 w0) (wf_i64 w1)).mono fun e W' ⟨he, bel⟩ => ?_
  subst he
  exact ⟨_, rfl, _, _, _, [], _, [], hW', trodAll_mk1 (shut_bool Try.underlying4 _), (trodAll_cons_mk (Below.trod frame_laid (by kernel_rfl) (of_decide_eq_true (by kernel_rfl)) k0 bel lt0) (trodAll_cons_mk (Below.trod frame_laid (by kernel_rfl) (of_decide_eq_true (by kernel_rfl)) k1 bel lt1) (trodAll_cons_mk (Below.trod frame_laid (by kernel_rfl) (of_decide_eq_true (by kernel_rfl)) k2 bel lt2) trodAll_mk0))), rfl, bel.frame _, fun h => by cases h⟩

theorem everyDining_over : Rows.everyDiningRow.holds Try.pinned (OpenSpec.ofChange Rows.everyDiningSpec) :=
  OpenClaim.holds_of_wide 5 Try.f5 rfl rfl rfl rfl rfl rfl rfl ⟨rfl, rfl, rfl, rfl, rfl⟩ rfl rfl rfl rfl rfl (by kernel_rfl) Try.func5 (by kernel_rfl)
    (of_decide_eq_true (by kernel_rfl)) (by unfold Func.isWrapper; first | (rw [if_pos (by decide +kernel)]; kernel_rfl) | (rw [if_neg (by decide +kernel)]; exact ⟨rfl, rfl⟩))
    (fun os started H enc _ => everyDining_lifted os started H enc)

/-- The statement. -/
theorem everyDining_holds : Rows.EveryDiningSaid := everyDining_over

end Go.Proofs.Ytoohconipcleiaa
