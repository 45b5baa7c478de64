/- ClockLattice: Join is the least upper bound and Meet the greatest lower bound of two clocks, for every three clocks. Printed by gen_lat.py. -/
import Derived.Test.YtoohconipcleiaaClkD
import Derived.Test.YtoohconipcleiaaFae
import Derived.Deep.DeepCutAuto
namespace Go.Proofs.Ytoohconipcleiaa
open Go.ChangeShapes Go.WideShapes Go.ChangeAt Go.RowKit
theorem within_is (x y : Nat → Int) {q : Bool} (h : cle x y = q) (w : World) : Calls Try.prog 37 #[clkV x, clkV y] w fun e w' => e = .returned (.bool q) ∧ Below w.heap.size w w' := by
  have := within_any x y w
  rwa [h] at this
theorem neq_is (x y : Nat → Int) (h : ceq x y = true) (w : World) : (binOp .neq 73 (clkV x) (clkV y)).run Try.prog w = .ok (.bool false) w := by
  have := neq_clk x y w
  rwa [h] at this
theorem clk_one (f : Nat → Int) : (clkC f).all (·.oneCell') = true := by simp [clkC, Value.oneCell']
theorem lat_same {w : World} {b : Nat} {cs ds : Array Value} {t : TypeId} (h : Has w b cs t) : Has (w.setRow b ds) b ds t :=
  ⟨by simp only [World.setRow, Array.getElem?_modify, if_pos, h.out, Option.map_some]⟩
theorem lat_other {w : World} {b c : Nat} {cs ds : Array Value} {t : TypeId} (h : Has w c cs t) (hn : b ≠ c) : Has (w.setRow b ds) c cs t :=
  ⟨by simp only [World.setRow, Array.getElem?_modify]; rw [if_neg hn]; exact h.out⟩
theorem lat_below {B b : Nat} {a w : World} {cs : Array Value} (h : Below B a w) (hb : B ≤ b) : Below B a (w.setRow b cs) :=
  ⟨h.os, h.tape, h.output, by simpa [World.setRow] using h.size, fun k hk => by
    have : (w.setRow b cs).heap[k]? = w.heap[k]? := by
      simp only [World.setRow, Array.getElem?_modify]
      rw [if_neg (by omega)]
    rw [this]; exact h.block k hk⟩
theorem lat_three {w0 w : World} {f g h : Nat → Int} {b : Nat} {cs : Array Value} (T : Three w0 w f g h) (hb : w0.heap.size + 1 + 1 < b) : Three w0 (w.setRow b cs) f g h :=
  ⟨lat_other T.a (by omega), lat_other T.b (by omega), lat_other T.c (by omega), lat_below T.e (by omega)⟩
/-- A fresh box of a clock. -/
def FrB (n : Nat) (v : Value) (w : World) : Prop := ∃ b, v = .pointer (some ⟨b, 0, none⟩) ∧ n ≤ b ∧ Has w b (clkC fun _ => 0) 73
theorem FrB.keep {n : Nat} {v : Value} {w w' : World} (h : FrB n v w) (k : Below w.heap.size w w') : FrB n v w' := by
  obtain ⟨b, h1, h2, h3⟩ := h
  exact ⟨b, h1, h2, h3.below k h3.lt⟩
set_option maxRecDepth 100000 in
set_option maxHeartbeats 4000000 in
theorem clockLattice_walk (f g h : Nat → Int) (w : World) (_ : ∀ i, i < 6 → I64 (f i)) (_ : ∀ i, i < 6 → I64 (g i)) (_ : ∀ i, i < 6 → I64 (h i)) :
    Calls Try.prog 13 #[clkV f, clkV g, clkV h] w fun e w' => e = .returned (.bool true) ∧ Below w.heap.size w w' := by
  go_enter Try.func13, Try.ntmps13
  go_wp2_with fail
  have T := Three.init w f g h
  generalize ((w.alloc (.cells (clkC f) 73)).alloc (.cells (clkC g) 73)).alloc (.cells (clkC h) 73) = w1 at *
  refine (clocked_any _).mono ?_
  rintro e w2 ⟨rfl, hk⟩
  replace T := T.next hk
  clear hk
  have hbw := T.e.size
  go_upto_region 3 with fail
  go_cut [7, 8] (fun p q wz => ∃ B C : Nat, p = .pointer (some ⟨B, 0, none⟩) ∧ q = .pointer (some ⟨C, 0, none⟩) ∧ Has wz B (clkC (cmax f g)) 73 ∧ Has wz C (clkC (cmin f g)) 73 ∧ Three w wz f g h)
  case first =>
    have F1 : ∀ w3, Below w2.heap.size w2 w3 → Has w3 w.heap.size (clkC f) 73 := fun w3 h3 => T.a.below h3 T.a.lt
    have F2 : ∀ w3, Below w2.heap.size w2 w3 → Has w3 (w.heap.size + 1) (clkC g) 73 := fun w3 h3 => T.b.below h3 T.b.lt
    refine wp_region_facA (fun w1 w' => Below w2.heap.size w1 w') 8 (fun _ => false) (fun _ => false) [.one (clkV f), .one (clkV g), .one (clkV (cmax f g)), .one (clkV f), .one (clkV g), .one (clkV (cmin f g)), .rel (FrB w2.heap.size), .rel (FrB w2.heap.size)] (fun _ => Below.refl _ _) (fun _ _ h => h) (fun _ _ h => h.size) (fun _ _ h => by cases h) (by kernel_rfl) (by kernel_rfl) (by kernel_rfl) (by intro F hF; simp at hF; subst hF; exact fun _ _ _ h1 h2 => h1.keep h2) ?gor
    case gor =>
      simp only [List.take_succ_cons, List.take_zero, List.drop_succ_cons, List.drop_zero]
      with_reducible refine wpFac_one rfl (fun w1 hw1 hd => ?_) (fun a1 ha1 => ?_)
      · refine asked rfl ?_
        refine wp_load_row 73 _ rfl (w.heap.size) rfl 73 (clkC f) (0, 0) _ (T.a.below hw1 T.a.lt).out Try.underlying73 rfl rfl ?_
        refine ⟨rfl, atD_some ?_, Below.refl _ _⟩
        simp [Act.put]
      simp [Act.put] at ha1; subst ha1
      with_reducible refine wpFac_one rfl (fun w1 hw1 hd => ?_) (fun a1 ha1 => ?_)
      · refine asked rfl ?_
        refine wp_load_row 73 _ rfl (w.heap.size + 1) rfl 73 (clkC g) (0, 0) _ (T.b.below hw1 T.b.lt).out Try.underlying73 rfl rfl ?_
        refine ⟨rfl, atD_some ?_, Below.refl _ _⟩
        simp [Act.put]
      simp [Act.put] at ha1; subst ha1
      with_reducible refine wpFac_one rfl (fun w1 hw1 hd => ?_) (fun a1 ha1 => ?_)
      · go_simp
        refine (join_any _ _ _).mono ?_
        rintro e w3 ⟨rfl, hk⟩
        exact ⟨atD_some (by simp), hk⟩
      simp [Act.put] at ha1; subst ha1
      with_reducible refine wpFac_one rfl (fun w1 hw1 hd => ?_) (fun a1 ha1 => ?_)
      · refine asked rfl ?_
        refine wp_load_row 73 _ rfl (w.heap.size) rfl 73 (clkC f) (0, 0) _ (T.a.below hw1 T.a.lt).out Try.underlying73 rfl rfl ?_
        refine ⟨rfl, atD_some ?_, Below.refl _ _⟩
        simp [Act.put]
      simp [Act.put] at ha1; subst ha1
      with_reducible refine wpFac_one rfl (fun w1 hw1 hd => ?_) (fun a1 ha1 => ?_)
      · refine asked rfl ?_
        refine wp_load_row 73 _ rfl (w.heap.size + 1) rfl 73 (clkC g) (0, 0) _ (T.b.below hw1 T.b.lt).out Try.underlying73 rfl rfl ?_
        refine ⟨rfl, atD_some ?_, Below.refl _ _⟩
        simp [Act.put]
      simp [Act.put] at ha1; subst ha1
      with_reducible refine wpFac_one rfl (fun w1 hw1 hd => ?_) (fun a1 ha1 => ?_)
      · go_simp
        refine (meet_any _ _ _).mono ?_
        rintro e w3 ⟨rfl, hk⟩
        exact ⟨atD_some (by simp), hk⟩
      simp [Act.put] at ha1; subst ha1
      with_reducible refine wpFac_rel rfl (fun w1 hw1 hd => ?_) (fun p a1 ha1 => ?_)
      · go_simp
        exact ⟨_, atD_some (by simp), ⟨w1.heap.size, rfl, hw1.size, Has.new w1 _ _⟩, (Below.refl _ _).alloc (Nat.le_refl _) _⟩
      simp [Act.put] at ha1; subst ha1
      with_reducible refine wpFac_rel rfl (fun w1 hw1 hd => ?_) (fun q a1 ha1 => ?_)
      · go_simp
        exact ⟨_, atD_some (by simp), ⟨w1.heap.size, rfl, hw1.size, Has.new w1 _ _⟩, (Below.refl _ _).alloc (Nat.le_refl _) _⟩
      simp [Act.put] at ha1; subst ha1
      refine wpFac_nil ?_
      intro w3 hw3 hG hD
      obtain ⟨B, rfl, hB1, hB⟩ : FrB w2.heap.size p w3 := hG 6 (by decide) (by kernel_rfl)
      obtain ⟨C, rfl, hC1, hC⟩ : FrB w2.heap.size q w3 := hG 7 (by decide) (by kernel_rfl)
      have hBC : B ≠ C := fun e => hD 6 7 _ _ 73 73 7 8 (by decide) (by decide) (by decide) rfl rfl rfl rfl rfl rfl rfl rfl (by subst e; rfl)
      have T3 := T.next hw3
      have hl2 := T.c.lt
      clear hG hD F1 F2 hw3 T
      go_wp2_with (first
        | (refine wpList_store_row rfl 73 _ _ rfl B (clkC (cmax f g)) rfl rfl 73 _ hB.out rfl rfl (clk_one _) ?_)
        | (refine wpList_store_row rfl 73 _ _ rfl C (clkC (cmin f g)) rfl rfl 73 _ (lat_other hC hBC).out rfl rfl (clk_one _) ?_))
      go_meet
      exact ⟨B, C, rfl, rfl, lat_other (lat_same hB) (Ne.symm hBC), lat_same (lat_other hC hBC), lat_three (lat_three T3 (by omega)) (by omega)⟩
  case rest =>
    obtain ⟨B, C, rfl, rfl, hB0, hC0, T0⟩ := hcut
    clear hbw T
    rename_i wz
    have p1 : cle f (cmax f g) = true := cle_iff.2 fun i _ => by unfold cmax; omega
    have p2 : cle g (cmax f g) = true := cle_iff.2 fun i _ => by unfold cmax; omega
    have p3 : cle (cmin f g) f = true := cle_iff.2 fun i _ => by unfold cmin; omega
    have p4 : cle (cmin f g) g = true := cle_iff.2 fun i _ => by unfold cmin; omega
    have N1 := neq_is (cmax f g) (cmax g f) (ceq_iff.2 fun i _ => by simp only [cmax]; omega)
    have N2 := neq_is (cmin f g) (cmin g f) (ceq_iff.2 fun i _ => by simp only [cmin]; omega)
    have N3 := neq_is (cmax f (cmin f g)) f (ceq_iff.2 fun i _ => by simp only [cmax, cmin]; omega)
    have N4 := neq_is (cmin f (cmax f g)) f (ceq_iff.2 fun i _ => by simp only [cmax, cmin]; omega)
    have N5 := neq_is (cmax (cmax f g) h) (cmax f (cmax g h)) (ceq_iff.2 fun i _ => by simp only [cmax]; omega)
    go_upto_region 4 with fail
    refine wp_region_fac 36 (fun _ => false) [.one (clkV (f)), .one (clkV (cmax f g)), .one (.bool true), .one (.bool false), .one (.bool false), .one (clkV (g)), .one (clkV (cmax f g)), .one (.bool true), .one (.bool false), .one (.bool false), .one (.bool false), .one (clkV (cmin f g)), .one (clkV (f)), .one (.bool true), .one (.bool false), .one (.bool false), .one (.bool false), .one (clkV (cmin f g)), .one (clkV (g)), .one (.bool true), .one (.bool false), .one (.bool false), .one (.bool false), .one (clkV (cmax f g)), .one (clkV (g)), .one (clkV (f)), .one (clkV (cmax g f)), .one (.bool false), .one (.bool false), .one (.bool false), .one (clkV (cmin f g)), .one (clkV (g)), .one (clkV (f)), .one (clkV (cmin g f)), .one (.bool false), .one (.bool false)] (by kernel_rfl) (by kernel_rfl) (by kernel_rfl) (by intro F hF; simp at hF) ?goa
    case goa =>
    simp only [List.take_succ_cons, List.take_zero, List.drop_succ_cons, List.drop_zero]
    with_reducible refine wpFac_one rfl (fun w1 hw1 hd => ?_) (fun a1 ha1 => ?_)
    · refine asked rfl ?_
      refine wp_load_row 73 _ rfl (w.heap.size) rfl 73 (clkC (f)) (0, 0) _ (T0.a.below hw1 T0.a.lt).out Try.underlying73 rfl rfl ?_
      refine ⟨rfl, atD_some ?_, Below.refl _ _⟩
      simp [Act.put]
    simp [Act.put] at ha1; subst ha1
    with_reducible refine wpFac_one rfl (fun w1 hw1 hd => ?_) (fun a1 ha1 => ?_)
    · refine asked rfl ?_
      refine wp_load_row 73 _ rfl (B) rfl 73 (clkC (cmax f g)) (0, 0) _ (hB0.below hw1 hB0.lt).out Try.underlying73 rfl rfl ?_
      refine ⟨rfl, atD_some ?_, Below.refl _ _⟩
      simp [Act.put]
    simp [Act.put] at ha1; subst ha1
    with_reducible refine wpFac_one rfl (fun w1 hw1 hd => ?_) (fun a1 ha1 => ?_)
    · go_simp
      refine (within_is (f) (cmax f g) p1 _).mono ?_
      rintro e w3 ⟨rfl, hk⟩
      exact ⟨atD_some (by simp), hk⟩
    simp [Act.put] at ha1; subst ha1
    with_reducible refine wpFac_one rfl (fun w1 hw1 hd => ?_) (fun a1 ha1 => ?_)
    · go_simp
      first | exact rfl | (refine ⟨atD_some ?_, Below.refl _ _⟩; simp)
    simp [Act.put] at ha1; subst ha1
    with_reducible refine wpFac_one rfl (fun w1 hw1 hd => ?_) (fun a1 ha1 => ?_)
    · go_simp
      first | exact rfl | (refine ⟨atD_some ?_, Below.refl _ _⟩; simp)
    simp [Act.put] at ha1; subst ha1
    with_reducible refine wpFac_one rfl (fun w1 hw1 hd => ?_) (fun a1 ha1 => ?_)
    · refine asked rfl ?_
      refine wp_load_row 73 _ rfl (w.heap.size + 1) rfl 73 (clkC (g)) (0, 0) _ (T0.b.below hw1 T0.b.lt).out Try.underlying73 rfl rfl ?_
      refine ⟨rfl, atD_some ?_, Below.refl _ _⟩
      simp [Act.put]
    simp [Act.put] at ha1; subst ha1
    with_reducible refine wpFac_one rfl (fun w1 hw1 hd => ?_) (fun a1 ha1 => ?_)
    · refine asked rfl ?_
      refine wp_load_row 73 _ rfl (B) rfl 73 (clkC (cmax f g)) (0, 0) _ (hB0.below hw1 hB0.lt).out Try.underlying73 rfl rfl ?_
      refine ⟨rfl, atD_some ?_, Below.refl _ _⟩
      simp [Act.put]
    simp [Act.put] at ha1; subst ha1
    with_reducible refine wpFac_one rfl (fun w1 hw1 hd => ?_) (fun a1 ha1 => ?_)
    · go_simp
      refine (within_is (g) (cmax f g) p2 _).mono ?_
      rintro e w3 ⟨rfl, hk⟩
      exact ⟨atD_some (by simp), hk⟩
    simp [Act.put] at ha1; subst ha1
    with_reducible refine wpFac_one rfl (fun w1 hw1 hd => ?_) (fun a1 ha1 => ?_)
    · go_simp
      first | exact rfl | (refine ⟨atD_some ?_, Below.refl _ _⟩; simp)
    simp [Act.put] at ha1; subst ha1
    with_reducible refine wpFac_one rfl (fun w1 hw1 hd => ?_) (fun a1 ha1 => ?_)
    · go_simp
      first | exact rfl | (refine ⟨atD_some ?_, Below.refl _ _⟩; simp)
    simp [Act.put] at ha1; subst ha1
    with_reducible refine wpFac_one rfl (fun w1 hw1 hd => ?_) (fun a1 ha1 => ?_)
    · go_simp
      first | exact rfl | (refine ⟨atD_some ?_, Below.refl _ _⟩; simp)
    simp [Act.put] at ha1; subst ha1
    with_reducible refine wpFac_one rfl (fun w1 hw1 hd => ?_) (fun a1 ha1 => ?_)
    · refine asked rfl ?_
      refine wp_load_row 73 _ rfl (C) rfl 73 (clkC (cmin f g)) (0, 0) _ (hC0.below hw1 hC0.lt).out Try.underlying73 rfl rfl ?_
      refine ⟨rfl, atD_some ?_, Below.refl _ _⟩
      simp [Act.put]
    simp [Act.put] at ha1; subst ha1
    with_reducible refine wpFac_one rfl (fun w1 hw1 hd => ?_) (fun a1 ha1 => ?_)
    · refine asked rfl ?_
      refine wp_load_row 73 _ rfl (w.heap.size) rfl 73 (clkC (f)) (0, 0) _ (T0.a.below hw1 T0.a.lt).out Try.underlying73 rfl rfl ?_
      refine ⟨rfl, atD_some ?_, Below.refl _ _⟩
      simp [Act.put]
    simp [Act.put] at ha1; subst ha1
    with_reducible refine wpFac_one rfl (fun w1 hw1 hd => ?_) (fun a1 ha1 => ?_)
    · go_simp
      refine (within_is (cmin f g) (f) p3 _).mono ?_
      rintro e w3 ⟨rfl, hk⟩
      exact ⟨atD_some (by simp), hk⟩
    simp [Act.put] at ha1; subst ha1
    with_reducible refine wpFac_one rfl (fun w1 hw1 hd => ?_) (fun a1 ha1 => ?_)
    · go_simp
      first | exact rfl | (refine ⟨atD_some ?_, Below.refl _ _⟩; simp)
    simp [Act.put] at ha1; subst ha1
    with_reducible refine wpFac_one rfl (fun w1 hw1 hd => ?_) (fun a1 ha1 => ?_)
    · go_simp
      first | exact rfl | (refine ⟨atD_some ?_, Below.refl _ _⟩; simp)
    simp [Act.put] at ha1; subst ha1
    with_reducible refine wpFac_one rfl (fun w1 hw1 hd => ?_) (fun a1 ha1 => ?_)
    · go_simp
      first | exact rfl | (refine ⟨atD_some ?_, Below.refl _ _⟩; simp)
    simp [Act.put] at ha1; subst ha1
    with_reducible refine wpFac_one rfl (fun w1 hw1 hd => ?_) (fun a1 ha1 => ?_)
    · refine asked rfl ?_
      refine wp_load_row 73 _ rfl (C) rfl 73 (clkC (cmin f g)) (0, 0) _ (hC0.below hw1 hC0.lt).out Try.underlying73 rfl rfl ?_
      refine ⟨rfl, atD_some ?_, Below.refl _ _⟩
      simp [Act.put]
    simp [Act.put] at ha1; subst ha1
    with_reducible refine wpFac_one rfl (fun w1 hw1 hd => ?_) (fun a1 ha1 => ?_)
    · refine asked rfl ?_
      refine wp_load_row 73 _ rfl (w.heap.size + 1) rfl 73 (clkC (g)) (0, 0) _ (T0.b.below hw1 T0.b.lt).out Try.underlying73 rfl rfl ?_
      refine ⟨rfl, atD_some ?_, Below.refl _ _⟩
      simp [Act.put]
    simp [Act.put] at ha1; subst ha1
    with_reducible refine wpFac_one rfl (fun w1 hw1 hd => ?_) (fun a1 ha1 => ?_)
    · go_simp
      refine (within_is (cmin f g) (g) p4 _).mono ?_
      rintro e w3 ⟨rfl, hk⟩
      exact ⟨atD_some (by simp), hk⟩
    simp [Act.put] at ha1; subst ha1
    with_reducible refine wpFac_one rfl (fun w1 hw1 hd => ?_) (fun a1 ha1 => ?_)
    · go_simp
      first | exact rfl | (refine ⟨atD_some ?_, Below.refl _ _⟩; simp)
    simp [Act.put] at ha1; subst ha1
    with_reducible refine wpFac_one rfl (fun w1 hw1 hd => ?_) (fun a1 ha1 => ?_)
    · go_simp
      first | exact rfl | (refine ⟨atD_some ?_, Below.refl _ _⟩; simp)
    simp [Act.put] at ha1; subst ha1
    with_reducible refine wpFac_one rfl (fun w1 hw1 hd => ?_) (fun a1 ha1 => ?_)
    · go_simp
      first | exact rfl | (refine ⟨atD_some ?_, Below.refl _ _⟩; simp)
    simp [Act.put] at ha1; subst ha1
    with_reducible refine wpFac_one rfl (fun w1 hw1 hd => ?_) (fun a1 ha1 => ?_)
    · refine asked rfl ?_
      refine wp_load_row 73 _ rfl (B) rfl 73 (clkC (cmax f g)) (0, 0) _ (hB0.below hw1 hB0.lt).out Try.underlying73 rfl rfl ?_
      refine ⟨rfl, atD_some ?_, Below.refl _ _⟩
      simp [Act.put]
    simp [Act.put] at ha1; subst ha1
    with_reducible refine wpFac_one rfl (fun w1 hw1 hd => ?_) (fun a1 ha1 => ?_)
    · refine asked rfl ?_
      refine wp_load_row 73 _ rfl (w.heap.size + 1) rfl 73 (clkC (g)) (0, 0) _ (T0.b.below hw1 T0.b.lt).out Try.underlying73 rfl rfl ?_
      refine ⟨rfl, atD_some ?_, Below.refl _ _⟩
      simp [Act.put]
    simp [Act.put] at ha1; subst ha1
    with_reducible refine wpFac_one rfl (fun w1 hw1 hd => ?_) (fun a1 ha1 => ?_)
    · refine asked rfl ?_
      refine wp_load_row 73 _ rfl (w.heap.size) rfl 73 (clkC (f)) (0, 0) _ (T0.a.below hw1 T0.a.lt).out Try.underlying73 rfl rfl ?_
      refine ⟨rfl, atD_some ?_, Below.refl _ _⟩
      simp [Act.put]
    simp [Act.put] at ha1; subst ha1
    with_reducible refine wpFac_one rfl (fun w1 hw1 hd => ?_) (fun a1 ha1 => ?_)
    · go_simp
      refine (join_any g f _).mono ?_
      rintro e w3 ⟨rfl, hk⟩
      exact ⟨atD_some (by simp), hk⟩
    simp [Act.put] at ha1; subst ha1
    with_reducible refine wpFac_one rfl (fun w1 hw1 hd => ?_) (fun a1 ha1 => ?_)
    · have eN1 := N1 w1; go_simp
      first | exact rfl | (refine ⟨atD_some ?_, Below.refl _ _⟩; simp)
    simp [Act.put] at ha1; subst ha1
    with_reducible refine wpFac_one rfl (fun w1 hw1 hd => ?_) (fun a1 ha1 => ?_)
    · go_simp
      first | exact rfl | (refine ⟨atD_some ?_, Below.refl _ _⟩; simp)
    simp [Act.put] at ha1; subst ha1
    with_reducible refine wpFac_one rfl (fun w1 hw1 hd => ?_) (fun a1 ha1 => ?_)
    · go_simp
      first | exact rfl | (refine ⟨atD_some ?_, Below.refl _ _⟩; simp)
    simp [Act.put] at ha1; subst ha1
    with_reducible refine wpFac_one rfl (fun w1 hw1 hd => ?_) (fun a1 ha1 => ?_)
    · refine asked rfl ?_
      refine wp_load_row 73 _ rfl (C) rfl 73 (clkC (cmin f g)) (0, 0) _ (hC0.below hw1 hC0.lt).out Try.underlying73 rfl rfl ?_
      refine ⟨rfl, atD_some ?_, Below.refl _ _⟩
      simp [Act.put]
    simp [Act.put] at ha1; subst ha1
    with_reducible refine wpFac_one rfl (fun w1 hw1 hd => ?_) (fun a1 ha1 => ?_)
    · refine asked rfl ?_
      refine wp_load_row 73 _ rfl (w.heap.size + 1) rfl 73 (clkC (g)) (0, 0) _ (T0.b.below hw1 T0.b.lt).out Try.underlying73 rfl rfl ?_
      refine ⟨rfl, atD_some ?_, Below.refl _ _⟩
      simp [Act.put]
    simp [Act.put] at ha1; subst ha1
    with_reducible refine wpFac_one rfl (fun w1 hw1 hd => ?_) (fun a1 ha1 => ?_)
    · refine asked rfl ?_
      refine wp_load_row 73 _ rfl (w.heap.size) rfl 73 (clkC (f)) (0, 0) _ (T0.a.below hw1 T0.a.lt).out Try.underlying73 rfl rfl ?_
      refine ⟨rfl, atD_some ?_, Below.refl _ _⟩
      simp [Act.put]
    simp [Act.put] at ha1; subst ha1
    with_reducible refine wpFac_one rfl (fun w1 hw1 hd => ?_) (fun a1 ha1 => ?_)
    · go_simp
      refine (meet_any g f _).mono ?_
      rintro e w3 ⟨rfl, hk⟩
      exact ⟨atD_some (by simp), hk⟩
    simp [Act.put] at ha1; subst ha1
    with_reducible refine wpFac_one rfl (fun w1 hw1 hd => ?_) (fun a1 ha1 => ?_)
    · have eN2 := N2 w1; go_simp
      first | exact rfl | (refine ⟨atD_some ?_, Below.refl _ _⟩; simp)
    simp [Act.put] at ha1; subst ha1
    with_reducible refine wpFac_one rfl (fun w1 hw1 hd => ?_) (fun a1 ha1 => ?_)
    · go_simp
      first | exact rfl | (refine ⟨atD_some ?_, Below.refl _ _⟩; simp)
    simp [Act.put] at ha1; subst ha1
    refine wpFac_nil ?_
    intro w3 hw3 _
    refine wpList_nil ?_
    have T1 := T0.next hw3
    have hB1 := hB0.below hw3 hB0.lt
    have hC1 := hC0.below hw3 hC0.lt
    clear hw3 T0 hB0 hC0 p1 p2 p3 p4 N1 N2
    go_upto_region 6 with fail
    refine wp_region_fac 23 (fun _ => false) [.one (clkV (f)), .one (clkV (cmin f g)), .one (clkV (cmax f (cmin f g))), .one (clkV (f)), .one (.bool false), .one (.bool false), .one (clkV (f)), .one (clkV (cmax f g)), .one (clkV (cmin f (cmax f g))), .one (clkV (f)), .one (.bool false), .one (.bool false), .one (.bool false), .one (clkV (cmax f g)), .one (clkV (h)), .one (clkV (cmax (cmax f g) h)), .one (clkV (f)), .one (clkV (g)), .one (clkV (h)), .one (clkV (cmax g h)), .one (clkV (cmax f (cmax g h))), .one (.bool false), .one (.bool false)] (by kernel_rfl) (by kernel_rfl) (by kernel_rfl) (by intro F hF; simp at hF) ?gob
    case gob =>
    simp only [List.take_succ_cons, List.take_zero, List.drop_succ_cons, List.drop_zero]
    with_reducible refine wpFac_one rfl (fun w1 hw1 hd => ?_) (fun a1 ha1 => ?_)
    · refine asked rfl ?_
      refine wp_load_row 73 _ rfl (w.heap.size) rfl 73 (clkC (f)) (0, 0) _ (T1.a.below hw1 T1.a.lt).out Try.underlying73 rfl rfl ?_
      refine ⟨rfl, atD_some ?_, Below.refl _ _⟩
      simp [Act.put]
    simp [Act.put] at ha1; subst ha1
    with_reducible refine wpFac_one rfl (fun w1 hw1 hd => ?_) (fun a1 ha1 => ?_)
    · refine asked rfl ?_
      refine wp_load_row 73 _ rfl (C) rfl 73 (clkC (cmin f g)) (0, 0) _ (hC1.below hw1 hC1.lt).out Try.underlying73 rfl rfl ?_
      refine ⟨rfl, atD_some ?_, Below.refl _ _⟩
      simp [Act.put]
    simp [Act.put] at ha1; subst ha1
    with_reducible refine wpFac_one rfl (fun w1 hw1 hd => ?_) (fun a1 ha1 => ?_)
    · go_simp
      refine (join_any f (cmin f g) _).mono ?_
      rintro e w3 ⟨rfl, hk⟩
      exact ⟨atD_some (by simp), hk⟩
    simp [Act.put] at ha1; subst ha1
    with_reducible refine wpFac_one rfl (fun w1 hw1 hd => ?_) (fun a1 ha1 => ?_)
    · refine asked rfl ?_
      refine wp_load_row 73 _ rfl (w.heap.size) rfl 73 (clkC (f)) (0, 0) _ (T1.a.below hw1 T1.a.lt).out Try.underlying73 rfl rfl ?_
      refine ⟨rfl, atD_some ?_, Below.refl _ _⟩
      simp [Act.put]
    simp [Act.put] at ha1; subst ha1
    with_reducible refine wpFac_one rfl (fun w1 hw1 hd => ?_) (fun a1 ha1 => ?_)
    · have eN3 := N3 w1; go_simp
      first | exact rfl | (refine ⟨atD_some ?_, Below.refl _ _⟩; simp)
    simp [Act.put] at ha1; subst ha1
    with_reducible refine wpFac_one rfl (fun w1 hw1 hd => ?_) (fun a1 ha1 => ?_)
    · go_simp
      first | exact rfl | (refine ⟨atD_some ?_, Below.refl _ _⟩; simp)
    simp [Act.put] at ha1; subst ha1
    with_reducible refine wpFac_one rfl (fun w1 hw1 hd => ?_) (fun a1 ha1 => ?_)
    · refine asked rfl ?_
      refine wp_load_row 73 _ rfl (w.heap.size) rfl 73 (clkC (f)) (0, 0) _ (T1.a.below hw1 T1.a.lt).out Try.underlying73 rfl rfl ?_
      refine ⟨rfl, atD_some ?_, Below.refl _ _⟩
      simp [Act.put]
    simp [Act.put] at ha1; subst ha1
    with_reducible refine wpFac_one rfl (fun w1 hw1 hd => ?_) (fun a1 ha1 => ?_)
    · refine asked rfl ?_
      refine wp_load_row 73 _ rfl (B) rfl 73 (clkC (cmax f g)) (0, 0) _ (hB1.below hw1 hB1.lt).out Try.underlying73 rfl rfl ?_
      refine ⟨rfl, atD_some ?_, Below.refl _ _⟩
      simp [Act.put]
    simp [Act.put] at ha1; subst ha1
    with_reducible refine wpFac_one rfl (fun w1 hw1 hd => ?_) (fun a1 ha1 => ?_)
    · go_simp
      refine (meet_any f (cmax f g) _).mono ?_
      rintro e w3 ⟨rfl, hk⟩
      exact ⟨atD_some (by simp), hk⟩
    simp [Act.put] at ha1; subst ha1
    with_reducible refine wpFac_one rfl (fun w1 hw1 hd => ?_) (fun a1 ha1 => ?_)
    · refine asked rfl ?_
      refine wp_load_row 73 _ rfl (w.heap.size) rfl 73 (clkC (f)) (0, 0) _ (T1.a.below hw1 T1.a.lt).out Try.underlying73 rfl rfl ?_
      refine ⟨rfl, atD_some ?_, Below.refl _ _⟩
      simp [Act.put]
    simp [Act.put] at ha1; subst ha1
    with_reducible refine wpFac_one rfl (fun w1 hw1 hd => ?_) (fun a1 ha1 => ?_)
    · have eN4 := N4 w1; go_simp
      first | exact rfl | (refine ⟨atD_some ?_, Below.refl _ _⟩; simp)
    simp [Act.put] at ha1; subst ha1
    with_reducible refine wpFac_one rfl (fun w1 hw1 hd => ?_) (fun a1 ha1 => ?_)
    · go_simp
      first | exact rfl | (refine ⟨atD_some ?_, Below.refl _ _⟩; simp)
    simp [Act.put] at ha1; subst ha1
    with_reducible refine wpFac_one rfl (fun w1 hw1 hd => ?_) (fun a1 ha1 => ?_)
    · go_simp
      first | exact rfl | (refine ⟨atD_some ?_, Below.refl _ _⟩; simp)
    simp [Act.put] at ha1; subst ha1
    with_reducible refine wpFac_one rfl (fun w1 hw1 hd => ?_) (fun a1 ha1 => ?_)
    · refine asked rfl ?_
      refine wp_load_row 73 _ rfl (B) rfl 73 (clkC (cmax f g)) (0, 0) _ (hB1.below hw1 hB1.lt).out Try.underlying73 rfl rfl ?_
      refine ⟨rfl, atD_some ?_, Below.refl _ _⟩
      simp [Act.put]
    simp [Act.put] at ha1; subst ha1
    with_reducible refine wpFac_one rfl (fun w1 hw1 hd => ?_) (fun a1 ha1 => ?_)
    · refine asked rfl ?_
      refine wp_load_row 73 _ rfl (w.heap.size + 1 + 1) rfl 73 (clkC (h)) (0, 0) _ (T1.c.below hw1 T1.c.lt).out Try.underlying73 rfl rfl ?_
      refine ⟨rfl, atD_some ?_, Below.refl _ _⟩
      simp [Act.put]
    simp [Act.put] at ha1; subst ha1
    with_reducible refine wpFac_one rfl (fun w1 hw1 hd => ?_) (fun a1 ha1 => ?_)
    · go_simp
      refine (join_any (cmax f g) h _).mono ?_
      rintro e w3 ⟨rfl, hk⟩
      exact ⟨atD_some (by simp), hk⟩
    simp [Act.put] at ha1; subst ha1
    with_reducible refine wpFac_one rfl (fun w1 hw1 hd => ?_) (fun a1 ha1 => ?_)
    · refine asked rfl ?_
      refine wp_load_row 73 _ rfl (w.heap.size) rfl 73 (clkC (f)) (0, 0) _ (T1.a.below hw1 T1.a.lt).out Try.underlying73 rfl rfl ?_
      refine ⟨rfl, atD_some ?_, Below.refl _ _⟩
      simp [Act.put]
    simp [Act.put] at ha1; subst ha1
    with_reducible refine wpFac_one rfl (fun w1 hw1 hd => ?_) (fun a1 ha1 => ?_)
    · refine asked rfl ?_
      refine wp_load_row 73 _ rfl (w.heap.size + 1) rfl 73 (clkC (g)) (0, 0) _ (T1.b.below hw1 T1.b.lt).out Try.underlying73 rfl rfl ?_
      refine ⟨rfl, atD_some ?_, Below.refl _ _⟩
      simp [Act.put]
    simp [Act.put] at ha1; subst ha1
    with_reducible refine wpFac_one rfl (fun w1 hw1 hd => ?_) (fun a1 ha1 => ?_)
    · refine asked rfl ?_
      refine wp_load_row 73 _ rfl (w.heap.size + 1 + 1) rfl 73 (clkC (h)) (0, 0) _ (T1.c.below hw1 T1.c.lt).out Try.underlying73 rfl rfl ?_
      refine ⟨rfl, atD_some ?_, Below.refl _ _⟩
      simp [Act.put]
    simp [Act.put] at ha1; subst ha1
    with_reducible refine wpFac_one rfl (fun w1 hw1 hd => ?_) (fun a1 ha1 => ?_)
    · go_simp
      refine (join_any g h _).mono ?_
      rintro e w3 ⟨rfl, hk⟩
      exact ⟨atD_some (by simp), hk⟩
    simp [Act.put] at ha1; subst ha1
    with_reducible refine wpFac_one rfl (fun w1 hw1 hd => ?_) (fun a1 ha1 => ?_)
    · go_simp
      refine (join_any f (cmax g h) _).mono ?_
      rintro e w3 ⟨rfl, hk⟩
      exact ⟨atD_some (by simp), hk⟩
    simp [Act.put] at ha1; subst ha1
    with_reducible refine wpFac_one rfl (fun w1 hw1 hd => ?_) (fun a1 ha1 => ?_)
    · have eN5 := N5 w1; go_simp
      first | exact rfl | (refine ⟨atD_some ?_, Below.refl _ _⟩; simp)
    simp [Act.put] at ha1; subst ha1
    with_reducible refine wpFac_one rfl (fun w1 hw1 hd => ?_) (fun a1 ha1 => ?_)
    · go_simp
      first | exact rfl | (refine ⟨atD_some ?_, Below.refl _ _⟩; simp)
    simp [Act.put] at ha1; subst ha1
    refine wpFac_nil ?_
    intro w4 hw4 _
    refine wpList_nil ?_
    have T2 := T1.next hw4
    have hB2 := hB1.below hw4 hB1.lt
    have hC2 := hC1.below hw4 hC1.lt
    clear hw4 T1 hB1 hC1 N3 N4 N5
    have jh0 : cle (cmax f g) h = (cle f h && cle g h) := by
      rw [Bool.eq_iff_iff, Bool.and_eq_true, cle_iff, cle_iff, cle_iff]
      simp only [cmax]
      exact ⟨fun a => ⟨fun i hi => by have := a i hi; omega, fun i hi => by have := a i hi; omega⟩, fun a i hi => by have := a.1 i hi; have := a.2 i hi; omega⟩
    have hm0 : cle h (cmin f g) = (cle h f && cle h g) := by
      rw [Bool.eq_iff_iff, Bool.and_eq_true, cle_iff, cle_iff, cle_iff]
      simp only [cmin]
      exact ⟨fun a => ⟨fun i hi => by have := a i hi; omega, fun i hi => by have := a i hi; omega⟩, fun a i hi => by have := a.1 i hi; have := a.2 i hi; omega⟩
    go_upto_region 8 with fail
    obtain ⟨q1, fh⟩ : ∃ q, cle f h = q := ⟨_, rfl⟩
    obtain ⟨q2, gh⟩ : ∃ q, cle g h = q := ⟨_, rfl⟩
    obtain ⟨q3, hf⟩ : ∃ q, cle h f = q := ⟨_, rfl⟩
    obtain ⟨q4, hg⟩ : ∃ q, cle h g = q := ⟨_, rfl⟩
    cases q1
    · cases q3
      · have jh : cle (cmax f g) h = false := by rw [jh0, fh]; rfl
        have hm : cle h (cmin f g) = false := by rw [hm0, hf]; rfl
        refine wp_region_fac 26 (fun _ => false) [.one (clkV (f)), .one (clkV (h)), .one (.bool false), .one (.bool false), .one undef, .one undef, .one undef, .one (.bool false), .one (clkV (cmax f g)), .one (clkV (h)), .one (.bool false), .one (.bool true), .one (.bool true), .one (clkV (h)), .one (clkV (f)), .one (.bool false), .one (.bool false), .one undef, .one undef, .one undef, .one (.bool false), .one (clkV (h)), .one (clkV (cmin f g)), .one (.bool false), .one (.bool true), .one (.bool true)] (by kernel_rfl) (by kernel_rfl) (by kernel_rfl) (by intro F hF; simp at hF) ?goc1
        case goc1 =>
        simp only [List.take_succ_cons, List.take_zero, List.drop_succ_cons, List.drop_zero]
        with_reducible refine wpFac_one rfl (fun w1 hw1 hd => ?_) (fun a1 ha1 => ?_)
        · refine asked rfl ?_
          refine wp_load_row 73 _ rfl (w.heap.size) rfl 73 (clkC (f)) (0, 0) _ (T2.a.below hw1 T2.a.lt).out Try.underlying73 rfl rfl ?_
          refine ⟨rfl, atD_some ?_, Below.refl _ _⟩
          simp [Act.put]
        simp [Act.put] at ha1; subst ha1
        with_reducible refine wpFac_one rfl (fun w1 hw1 hd => ?_) (fun a1 ha1 => ?_)
        · refine asked rfl ?_
          refine wp_load_row 73 _ rfl (w.heap.size + 1 + 1) rfl 73 (clkC (h)) (0, 0) _ (T2.c.below hw1 T2.c.lt).out Try.underlying73 rfl rfl ?_
          refine ⟨rfl, atD_some ?_, Below.refl _ _⟩
          simp [Act.put]
        simp [Act.put] at ha1; subst ha1
        with_reducible refine wpFac_one rfl (fun w1 hw1 hd => ?_) (fun a1 ha1 => ?_)
        · go_simp
          refine (within_is (f) (h) fh _).mono ?_
          rintro e w3 ⟨rfl, hk⟩
          exact ⟨atD_some (by simp), hk⟩
        simp [Act.put] at ha1; subst ha1
        with_reducible refine wpFac_one rfl (fun w1 hw1 hd => ?_) (fun a1 ha1 => ?_)
        · go_simp
          first | exact rfl | (refine ⟨atD_some ?_, Below.refl _ _⟩; simp)
        simp [Act.put] at ha1; subst ha1
        with_reducible refine wpFac_one rfl (fun w1 hw1 hd => ?_) (fun a1 ha1 => ?_)
        · go_simp
          try exact rfl
        simp [Act.put] at ha1; subst ha1
        with_reducible refine wpFac_one rfl (fun w1 hw1 hd => ?_) (fun a1 ha1 => ?_)
        · go_simp
          try exact rfl
        simp [Act.put] at ha1; subst ha1
        with_reducible refine wpFac_one rfl (fun w1 hw1 hd => ?_) (fun a1 ha1 => ?_)
        · go_simp
          try exact rfl
        simp [Act.put] at ha1; subst ha1
        with_reducible refine wpFac_one rfl (fun w1 hw1 hd => ?_) (fun a1 ha1 => ?_)
        · go_simp
          first | exact rfl | (refine ⟨atD_some ?_, Below.refl _ _⟩; simp)
        simp [Act.put] at ha1; subst ha1
        with_reducible refine wpFac_one rfl (fun w1 hw1 hd => ?_) (fun a1 ha1 => ?_)
        · refine asked rfl ?_
          refine wp_load_row 73 _ rfl (B) rfl 73 (clkC (cmax f g)) (0, 0) _ (hB2.below hw1 hB2.lt).out Try.underlying73 rfl rfl ?_
          refine ⟨rfl, atD_some ?_, Below.refl _ _⟩
          simp [Act.put]
        simp [Act.put] at ha1; subst ha1
        with_reducible refine wpFac_one rfl (fun w1 hw1 hd => ?_) (fun a1 ha1 => ?_)
        · refine asked rfl ?_
          refine wp_load_row 73 _ rfl (w.heap.size + 1 + 1) rfl 73 (clkC (h)) (0, 0) _ (T2.c.below hw1 T2.c.lt).out Try.underlying73 rfl rfl ?_
          refine ⟨rfl, atD_some ?_, Below.refl _ _⟩
          simp [Act.put]
        simp [Act.put] at ha1; subst ha1
        with_reducible refine wpFac_one rfl (fun w1 hw1 hd => ?_) (fun a1 ha1 => ?_)
        · go_simp
          refine (within_is (cmax f g) (h) jh _).mono ?_
          rintro e w3 ⟨rfl, hk⟩
          exact ⟨atD_some (by simp), hk⟩
        simp [Act.put] at ha1; subst ha1
        with_reducible refine wpFac_one rfl (fun w1 hw1 hd => ?_) (fun a1 ha1 => ?_)
        · go_simp
          first | exact rfl | (refine ⟨atD_some ?_, Below.refl _ _⟩; simp)
        simp [Act.put] at ha1; subst ha1
        with_reducible refine wpFac_one rfl (fun w1 hw1 hd => ?_) (fun a1 ha1 => ?_)
        · go_simp
          first | exact rfl | (refine ⟨atD_some ?_, Below.refl _ _⟩; simp)
        simp [Act.put] at ha1; subst ha1
        with_reducible refine wpFac_one rfl (fun w1 hw1 hd => ?_) (fun a1 ha1 => ?_)
        · refine asked rfl ?_
          refine wp_load_row 73 _ rfl (w.heap.size + 1 + 1) rfl 73 (clkC (h)) (0, 0) _ (T2.c.below hw1 T2.c.lt).out Try.underlying73 rfl rfl ?_
          refine ⟨rfl, atD_some ?_, Below.refl _ _⟩
          simp [Act.put]
        simp [Act.put] at ha1; subst ha1
        with_reducible refine wpFac_one rfl (fun w1 hw1 hd => ?_) (fun a1 ha1 => ?_)
        · refine asked rfl ?_
          refine wp_load_row 73 _ rfl (w.heap.size) rfl 73 (clkC (f)) (0, 0) _ (T2.a.below hw1 T2.a.lt).out Try.underlying73 rfl rfl ?_
          refine ⟨rfl, atD_some ?_, Below.refl _ _⟩
          simp [Act.put]
        simp [Act.put] at ha1; subst ha1
        with_reducible refine wpFac_one rfl (fun w1 hw1 hd => ?_) (fun a1 ha1 => ?_)
        · go_simp
          refine (within_is (h) (f) hf _).mono ?_
          rintro e w3 ⟨rfl, hk⟩
          exact ⟨atD_some (by simp), hk⟩
        simp [Act.put] at ha1; subst ha1
        with_reducible refine wpFac_one rfl (fun w1 hw1 hd => ?_) (fun a1 ha1 => ?_)
        · go_simp
          first | exact rfl | (refine ⟨atD_some ?_, Below.refl _ _⟩; simp)
        simp [Act.put] at ha1; subst ha1
        with_reducible refine wpFac_one rfl (fun w1 hw1 hd => ?_) (fun a1 ha1 => ?_)
        · go_simp
          try exact rfl
        simp [Act.put] at ha1; subst ha1
        with_reducible refine wpFac_one rfl (fun w1 hw1 hd => ?_) (fun a1 ha1 => ?_)
        · go_simp
          try exact rfl
        simp [Act.put] at ha1; subst ha1
        with_reducible refine wpFac_one rfl (fun w1 hw1 hd => ?_) (fun a1 ha1 => ?_)
        · go_simp
          try exact rfl
        simp [Act.put] at ha1; subst ha1
        with_reducible refine wpFac_one rfl (fun w1 hw1 hd => ?_) (fun a1 ha1 => ?_)
        · go_simp
          first | exact rfl | (refine ⟨atD_some ?_, Below.refl _ _⟩; simp)
        simp [Act.put] at ha1; subst ha1
        with_reducible refine wpFac_one rfl (fun w1 hw1 hd => ?_) (fun a1 ha1 => ?_)
        · refine asked rfl ?_
          refine wp_load_row 73 _ rfl (w.heap.size + 1 + 1) rfl 73 (clkC (h)) (0, 0) _ (T2.c.below hw1 T2.c.lt).out Try.underlying73 rfl rfl ?_
          refine ⟨rfl, atD_some ?_, Below.refl _ _⟩
          simp [Act.put]
        simp [Act.put] at ha1; subst ha1
        with_reducible refine wpFac_one rfl (fun w1 hw1 hd => ?_) (fun a1 ha1 => ?_)
        · refine asked rfl ?_
          refine wp_load_row 73 _ rfl (C) rfl 73 (clkC (cmin f g)) (0, 0) _ (hC2.below hw1 hC2.lt).out Try.underlying73 rfl rfl ?_
          refine ⟨rfl, atD_some ?_, Below.refl _ _⟩
          simp [Act.put]
        simp [Act.put] at ha1; subst ha1
        with_reducible refine wpFac_one rfl (fun w1 hw1 hd => ?_) (fun a1 ha1 => ?_)
        · go_simp
          refine (within_is (h) (cmin f g) hm _).mono ?_
          rintro e w3 ⟨rfl, hk⟩
          exact ⟨atD_some (by simp), hk⟩
        simp [Act.put] at ha1; subst ha1
        with_reducible refine wpFac_one rfl (fun w1 hw1 hd => ?_) (fun a1 ha1 => ?_)
        · go_simp
          first | exact rfl | (refine ⟨atD_some ?_, Below.refl _ _⟩; simp)
        simp [Act.put] at ha1; subst ha1
        with_reducible refine wpFac_one rfl (fun w1 hw1 hd => ?_) (fun a1 ha1 => ?_)
        · go_simp
          first | exact rfl | (refine ⟨atD_some ?_, Below.refl _ _⟩; simp)
        simp [Act.put] at ha1; subst ha1
        refine wpFac_nil ?_
        intro w5 hw5 _
        have T3 := T2.next hw5
        clear hw5 T2 hB2 hC2 jh0 hm0 jh hm
        go_wp2
        go_ret
        exact ⟨rfl, T3.e⟩
      · cases q4
        · have jh : cle (cmax f g) h = false := by rw [jh0, fh]; rfl
          have hm : cle h (cmin f g) = false := by rw [hm0, hf, hg]; rfl
          refine wp_region_fac 26 (fun _ => false) [.one (clkV (f)), .one (clkV (h)), .one (.bool false), .one (.bool false), .one undef, .one undef, .one undef, .one (.bool false), .one (clkV (cmax f g)), .one (clkV (h)), .one (.bool false), .one (.bool true), .one (.bool true), .one (clkV (h)), .one (clkV (f)), .one (.bool true), .one (.bool true), .one (clkV (h)), .one (clkV (g)), .one (.bool false), .one (.bool false), .one (clkV (h)), .one (clkV (cmin f g)), .one (.bool false), .one (.bool true), .one (.bool true)] (by kernel_rfl) (by kernel_rfl) (by kernel_rfl) (by intro F hF; simp at hF) ?goc2
          case goc2 =>
          simp only [List.take_succ_cons, List.take_zero, List.drop_succ_cons, List.drop_zero]
          with_reducible refine wpFac_one rfl (fun w1 hw1 hd => ?_) (fun a1 ha1 => ?_)
          · refine asked rfl ?_
            refine wp_load_row 73 _ rfl (w.heap.size) rfl 73 (clkC (f)) (0, 0) _ (T2.a.below hw1 T2.a.lt).out Try.underlying73 rfl rfl ?_
            refine ⟨rfl, atD_some ?_, Below.refl _ _⟩
            simp [Act.put]
          simp [Act.put] at ha1; subst ha1
          with_reducible refine wpFac_one rfl (fun w1 hw1 hd => ?_) (fun a1 ha1 => ?_)
          · refine asked rfl ?_
            refine wp_load_row 73 _ rfl (w.heap.size + 1 + 1) rfl 73 (clkC (h)) (0, 0) _ (T2.c.below hw1 T2.c.lt).out Try.underlying73 rfl rfl ?_
            refine ⟨rfl, atD_some ?_, Below.refl _ _⟩
            simp [Act.put]
          simp [Act.put] at ha1; subst ha1
          with_reducible refine wpFac_one rfl (fun w1 hw1 hd => ?_) (fun a1 ha1 => ?_)
          · go_simp
            refine (within_is (f) (h) fh _).mono ?_
            rintro e w3 ⟨rfl, hk⟩
            exact ⟨atD_some (by simp), hk⟩
          simp [Act.put] at ha1; subst ha1
          with_reducible refine wpFac_one rfl (fun w1 hw1 hd => ?_) (fun a1 ha1 => ?_)
          · go_simp
            first | exact rfl | (refine ⟨atD_some ?_, Below.refl _ _⟩; simp)
          simp [Act.put] at ha1; subst ha1
          with_reducible refine wpFac_one rfl (fun w1 hw1 hd => ?_) (fun a1 ha1 => ?_)
          · go_simp
            try exact rfl
          simp [Act.put] at ha1; subst ha1
          with_reducible refine wpFac_one rfl (fun w1 hw1 hd => ?_) (fun a1 ha1 => ?_)
          · go_simp
            try exact rfl
          simp [Act.put] at ha1; subst ha1
          with_reducible refine wpFac_one rfl (fun w1 hw1 hd => ?_) (fun a1 ha1 => ?_)
          · go_simp
            try exact rfl
          simp [Act.put] at ha1; subst ha1
          with_reducible refine wpFac_one rfl (fun w1 hw1 hd => ?_) (fun a1 ha1 => ?_)
          · go_simp
            first | exact rfl | (refine ⟨atD_some ?_, Below.refl _ _⟩; simp)
          simp [Act.put] at ha1; subst ha1
          with_reducible refine wpFac_one rfl (fun w1 hw1 hd => ?_) (fun a1 ha1 => ?_)
          · refine asked rfl ?_
            refine wp_load_row 73 _ rfl (B) rfl 73 (clkC (cmax f g)) (0, 0) _ (hB2.below hw1 hB2.lt).out Try.underlying73 rfl rfl ?_
            refine ⟨rfl, atD_some ?_, Below.refl _ _⟩
            simp [Act.put]
          simp [Act.put] at ha1; subst ha1
          with_reducible refine wpFac_one rfl (fun w1 hw1 hd => ?_) (fun a1 ha1 => ?_)
          · refine asked rfl ?_
            refine wp_load_row 73 _ rfl (w.heap.size + 1 + 1) rfl 73 (clkC (h)) (0, 0) _ (T2.c.below hw1 T2.c.lt).out Try.underlying73 rfl rfl ?_
            refine ⟨rfl, atD_some ?_, Below.refl _ _⟩
            simp [Act.put]
          simp [Act.put] at ha1; subst ha1
          with_reducible refine wpFac_one rfl (fun w1 hw1 hd => ?_) (fun a1 ha1 => ?_)
          · go_simp
            refine (within_is (cmax f g) (h) jh _).mono ?_
            rintro e w3 ⟨rfl, hk⟩
            exact ⟨atD_some (by simp), hk⟩
          simp [Act.put] at ha1; subst ha1
          with_reducible refine wpFac_one rfl (fun w1 hw1 hd => ?_) (fun a1 ha1 => ?_)
          · go_simp
            first | exact rfl | (refine ⟨atD_some ?_, Below.refl _ _⟩; simp)
          simp [Act.put] at ha1; subst ha1
          with_reducible refine wpFac_one rfl (fun w1 hw1 hd => ?_) (fun a1 ha1 => ?_)
          · go_simp
            first | exact rfl | (refine ⟨atD_some ?_, Below.refl _ _⟩; simp)
          simp [Act.put] at ha1; subst ha1
          with_reducible refine wpFac_one rfl (fun w1 hw1 hd => ?_) (fun a1 ha1 => ?_)
          · refine asked rfl ?_
            refine wp_load_row 73 _ rfl (w.heap.size + 1 + 1) rfl 73 (clkC (h)) (0, 0) _ (T2.c.below hw1 T2.c.lt).out Try.underlying73 rfl rfl ?_
            refine ⟨rfl, atD_some ?_, Below.refl _ _⟩
            simp [Act.put]
          simp [Act.put] at ha1; subst ha1
          with_reducible refine wpFac_one rfl (fun w1 hw1 hd => ?_) (fun a1 ha1 => ?_)
          · refine asked rfl ?_
            refine wp_load_row 73 _ rfl (w.heap.size) rfl 73 (clkC (f)) (0, 0) _ (T2.a.below hw1 T2.a.lt).out Try.underlying73 rfl rfl ?_
            refine ⟨rfl, atD_some ?_, Below.refl _ _⟩
            simp [Act.put]
          simp [Act.put] at ha1; subst ha1
          with_reducible refine wpFac_one rfl (fun w1 hw1 hd => ?_) (fun a1 ha1 => ?_)
          · go_simp
            refine (within_is (h) (f) hf _).mono ?_
            rintro e w3 ⟨rfl, hk⟩
            exact ⟨atD_some (by simp), hk⟩
          simp [Act.put] at ha1; subst ha1
          with_reducible refine wpFac_one rfl (fun w1 hw1 hd => ?_) (fun a1 ha1 => ?_)
          · go_simp
            first | exact rfl | (refine ⟨atD_some ?_, Below.refl _ _⟩; simp)
          simp [Act.put] at ha1; subst ha1
          with_reducible refine wpFac_one rfl (fun w1 hw1 hd => ?_) (fun a1 ha1 => ?_)
          · refine asked rfl ?_
            refine wp_load_row 73 _ rfl (w.heap.size + 1 + 1) rfl 73 (clkC (h)) (0, 0) _ (T2.c.below hw1 T2.c.lt).out Try.underlying73 rfl rfl ?_
            refine ⟨rfl, atD_some ?_, Below.refl _ _⟩
            simp [Act.put]
          simp [Act.put] at ha1; subst ha1
          with_reducible refine wpFac_one rfl (fun w1 hw1 hd => ?_) (fun a1 ha1 => ?_)
          · refine asked rfl ?_
            refine wp_load_row 73 _ rfl (w.heap.size + 1) rfl 73 (clkC (g)) (0, 0) _ (T2.b.below hw1 T2.b.lt).out Try.underlying73 rfl rfl ?_
            refine ⟨rfl, atD_some ?_, Below.refl _ _⟩
            simp [Act.put]
          simp [Act.put] at ha1; subst ha1
          with_reducible refine wpFac_one rfl (fun w1 hw1 hd => ?_) (fun a1 ha1 => ?_)
          · go_simp
            refine (within_is (h) (g) hg _).mono ?_
            rintro e w3 ⟨rfl, hk⟩
            exact ⟨atD_some (by simp), hk⟩
          simp [Act.put] at ha1; subst ha1
          with_reducible refine wpFac_one rfl (fun w1 hw1 hd => ?_) (fun a1 ha1 => ?_)
          · go_simp
            first | exact rfl | (refine ⟨atD_some ?_, Below.refl _ _⟩; simp)
          simp [Act.put] at ha1; subst ha1
          with_reducible refine wpFac_one rfl (fun w1 hw1 hd => ?_) (fun a1 ha1 => ?_)
          · refine asked rfl ?_
            refine wp_load_row 73 _ rfl (w.heap.size + 1 + 1) rfl 73 (clkC (h)) (0, 0) _ (T2.c.below hw1 T2.c.lt).out Try.underlying73 rfl rfl ?_
            refine ⟨rfl, atD_some ?_, Below.refl _ _⟩
            simp [Act.put]
          simp [Act.put] at ha1; subst ha1
          with_reducible refine wpFac_one rfl (fun w1 hw1 hd => ?_) (fun a1 ha1 => ?_)
          · refine asked rfl ?_
            refine wp_load_row 73 _ rfl (C) rfl 73 (clkC (cmin f g)) (0, 0) _ (hC2.below hw1 hC2.lt).out Try.underlying73 rfl rfl ?_
            refine ⟨rfl, atD_some ?_, Below.refl _ _⟩
            simp [Act.put]
          simp [Act.put] at ha1; subst ha1
          with_reducible refine wpFac_one rfl (fun w1 hw1 hd => ?_) (fun a1 ha1 => ?_)
          · go_simp
            refine (within_is (h) (cmin f g) hm _).mono ?_
            rintro e w3 ⟨rfl, hk⟩
            exact ⟨atD_some (by simp), hk⟩
          simp [Act.put] at ha1; subst ha1
          with_reducible refine wpFac_one rfl (fun w1 hw1 hd => ?_) (fun a1 ha1 => ?_)
          · go_simp
            first | exact rfl | (refine ⟨atD_some ?_, Below.refl _ _⟩; simp)
          simp [Act.put] at ha1; subst ha1
          with_reducible refine wpFac_one rfl (fun w1 hw1 hd => ?_) (fun a1 ha1 => ?_)
          · go_simp
            first | exact rfl | (refine ⟨atD_some ?_, Below.refl _ _⟩; simp)
          simp [Act.put] at ha1; subst ha1
          refine wpFac_nil ?_
          intro w5 hw5 _
          have T3 := T2.next hw5
          clear hw5 T2 hB2 hC2 jh0 hm0 jh hm
          go_wp2
          go_ret
          exact ⟨rfl, T3.e⟩
        · have jh : cle (cmax f g) h = false := by rw [jh0, fh]; rfl
          have hm : cle h (cmin f g) = true := by rw [hm0, hf, hg]; rfl
          refine wp_region_fac 26 (fun _ => false) [.one (clkV (f)), .one (clkV (h)), .one (.bool false), .one (.bool false), .one undef, .one undef, .one undef, .one (.bool false), .one (clkV (cmax f g)), .one (clkV (h)), .one (.bool false), .one (.bool true), .one (.bool true), .one (clkV (h)), .one (clkV (f)), .one (.bool true), .one (.bool true), .one (clkV (h)), .one (clkV (g)), .one (.bool true), .one (.bool true), .one (clkV (h)), .one (clkV (cmin f g)), .one (.bool true), .one (.bool true), .one (.bool true)] (by kernel_rfl) (by kernel_rfl) (by kernel_rfl) (by intro F hF; simp at hF) ?goc3
          case goc3 =>
          simp only [List.take_succ_cons, List.take_zero, List.drop_succ_cons, List.drop_zero]
          with_reducible refine wpFac_one rfl (fun w1 hw1 hd => ?_) (fun a1 ha1 => ?_)
          · refine asked rfl ?_
            refine wp_load_row 73 _ rfl (w.heap.size) rfl 73 (clkC (f)) (0, 0) _ (T2.a.below hw1 T2.a.lt).out Try.underlying73 rfl rfl ?_
            refine ⟨rfl, atD_some ?_, Below.refl _ _⟩
            simp [Act.put]
          simp [Act.put] at ha1; subst ha1
          with_reducible refine wpFac_one rfl (fun w1 hw1 hd => ?_) (fun a1 ha1 => ?_)
          · refine asked rfl ?_
            refine wp_load_row 73 _ rfl (w.heap.size + 1 + 1) rfl 73 (clkC (h)) (0, 0) _ (T2.c.below hw1 T2.c.lt).out Try.underlying73 rfl rfl ?_
            refine ⟨rfl, atD_some ?_, Below.refl _ _⟩
            simp [Act.put]
          simp [Act.put] at ha1; subst ha1
          with_reducible refine wpFac_one rfl (fun w1 hw1 hd => ?_) (fun a1 ha1 => ?_)
          · go_simp
            refine (within_is (f) (h) fh _).mono ?_
            rintro e w3 ⟨rfl, hk⟩
            exact ⟨atD_some (by simp), hk⟩
          simp [Act.put] at ha1; subst ha1
          with_reducible refine wpFac_one rfl (fun w1 hw1 hd => ?_) (fun a1 ha1 => ?_)
          · go_simp
            first | exact rfl | (refine ⟨atD_some ?_, Below.refl _ _⟩; simp)
          simp [Act.put] at ha1; subst ha1
          with_reducible refine wpFac_one rfl (fun w1 hw1 hd => ?_) (fun a1 ha1 => ?_)
          · go_simp
            try exact rfl
          simp [Act.put] at ha1; subst ha1
          with_reducible refine wpFac_one rfl (fun w1 hw1 hd => ?_) (fun a1 ha1 => ?_)
          · go_simp
            try exact rfl
          simp [Act.put] at ha1; subst ha1
          with_reducible refine wpFac_one rfl (fun w1 hw1 hd => ?_) (fun a1 ha1 => ?_)
          · go_simp
            try exact rfl
          simp [Act.put] at ha1; subst ha1
          with_reducible refine wpFac_one rfl (fun w1 hw1 hd => ?_) (fun a1 ha1 => ?_)
          · go_simp
            first | exact rfl | (refine ⟨atD_some ?_, Below.refl _ _⟩; simp)
          simp [Act.put] at ha1; subst ha1
          with_reducible refine wpFac_one rfl (fun w1 hw1 hd => ?_) (fun a1 ha1 => ?_)
          · refine asked rfl ?_
            refine wp_load_row 73 _ rfl (B) rfl 73 (clkC (cmax f g)) (0, 0) _ (hB2.below hw1 hB2.lt).out Try.underlying73 rfl rfl ?_
            refine ⟨rfl, atD_some ?_, Below.refl _ _⟩
            simp [Act.put]
          simp [Act.put] at ha1; subst ha1
          with_reducible refine wpFac_one rfl (fun w1 hw1 hd => ?_) (fun a1 ha1 => ?_)
          · refine asked rfl ?_
            refine wp_load_row 73 _ rfl (w.heap.size + 1 + 1) rfl 73 (clkC (h)) (0, 0) _ (T2.c.below hw1 T2.c.lt).out Try.underlying73 rfl rfl ?_
            refine ⟨rfl, atD_some ?_, Below.refl _ _⟩
            simp [Act.put]
          simp [Act.put] at ha1; subst ha1
          with_reducible refine wpFac_one rfl (fun w1 hw1 hd => ?_) (fun a1 ha1 => ?_)
          · go_simp
            refine (within_is (cmax f g) (h) jh _).mono ?_
            rintro e w3 ⟨rfl, hk⟩
            exact ⟨atD_some (by simp), hk⟩
          simp [Act.put] at ha1; subst ha1
          with_reducible refine wpFac_one rfl (fun w1 hw1 hd => ?_) (fun a1 ha1 => ?_)
          · go_simp
            first | exact rfl | (refine ⟨atD_some ?_, Below.refl _ _⟩; simp)
          simp [Act.put] at ha1; subst ha1
          with_reducible refine wpFac_one rfl (fun w1 hw1 hd => ?_) (fun a1 ha1 => ?_)
          · go_simp
            first | exact rfl | (refine ⟨atD_some ?_, Below.refl _ _⟩; simp)
          simp [Act.put] at ha1; subst ha1
          with_reducible refine wpFac_one rfl (fun w1 hw1 hd => ?_) (fun a1 ha1 => ?_)
          · refine asked rfl ?_
            refine wp_load_row 73 _ rfl (w.heap.size + 1 + 1) rfl 73 (clkC (h)) (0, 0) _ (T2.c.below hw1 T2.c.lt).out Try.underlying73 rfl rfl ?_
            refine ⟨rfl, atD_some ?_, Below.refl _ _⟩
            simp [Act.put]
          simp [Act.put] at ha1; subst ha1
          with_reducible refine wpFac_one rfl (fun w1 hw1 hd => ?_) (fun a1 ha1 => ?_)
          · refine asked rfl ?_
            refine wp_load_row 73 _ rfl (w.heap.size) rfl 73 (clkC (f)) (0, 0) _ (T2.a.below hw1 T2.a.lt).out Try.underlying73 rfl rfl ?_
            refine ⟨rfl, atD_some ?_, Below.refl _ _⟩
            simp [Act.put]
          simp [Act.put] at ha1; subst ha1
          with_reducible refine wpFac_one rfl (fun w1 hw1 hd => ?_) (fun a1 ha1 => ?_)
          · go_simp
            refine (within_is (h) (f) hf _).mono ?_
            rintro e w3 ⟨rfl, hk⟩
            exact ⟨atD_some (by simp), hk⟩
          simp [Act.put] at ha1; subst ha1
          with_reducible refine wpFac_one rfl (fun w1 hw1 hd => ?_) (fun a1 ha1 => ?_)
          · go_simp
            first | exact rfl | (refine ⟨atD_some ?_, Below.refl _ _⟩; simp)
          simp [Act.put] at ha1; subst ha1
          with_reducible refine wpFac_one rfl (fun w1 hw1 hd => ?_) (fun a1 ha1 => ?_)
          · refine asked rfl ?_
            refine wp_load_row 73 _ rfl (w.heap.size + 1 + 1) rfl 73 (clkC (h)) (0, 0) _ (T2.c.below hw1 T2.c.lt).out Try.underlying73 rfl rfl ?_
            refine ⟨rfl, atD_some ?_, Below.refl _ _⟩
            simp [Act.put]
          simp [Act.put] at ha1; subst ha1
          with_reducible refine wpFac_one rfl (fun w1 hw1 hd => ?_) (fun a1 ha1 => ?_)
          · refine asked rfl ?_
            refine wp_load_row 73 _ rfl (w.heap.size + 1) rfl 73 (clkC (g)) (0, 0) _ (T2.b.below hw1 T2.b.lt).out Try.underlying73 rfl rfl ?_
            refine ⟨rfl, atD_some ?_, Below.refl _ _⟩
            simp [Act.put]
          simp [Act.put] at ha1; subst ha1
          with_reducible refine wpFac_one rfl (fun w1 hw1 hd => ?_) (fun a1 ha1 => ?_)
          · go_simp
            refine (within_is (h) (g) hg _).mono ?_
            rintro e w3 ⟨rfl, hk⟩
            exact ⟨atD_some (by simp), hk⟩
          simp [Act.put] at ha1; subst ha1
          with_reducible refine wpFac_one rfl (fun w1 hw1 hd => ?_) (fun a1 ha1 => ?_)
          · go_simp
            first | exact rfl | (refine ⟨atD_some ?_, Below.refl _ _⟩; simp)
          simp [Act.put] at ha1; subst ha1
          with_reducible refine wpFac_one rfl (fun w1 hw1 hd => ?_) (fun a1 ha1 => ?_)
          · refine asked rfl ?_
            refine wp_load_row 73 _ rfl (w.heap.size + 1 + 1) rfl 73 (clkC (h)) (0, 0) _ (T2.c.below hw1 T2.c.lt).out Try.underlying73 rfl rfl ?_
            refine ⟨rfl, atD_some ?_, Below.refl _ _⟩
            simp [Act.put]
          simp [Act.put] at ha1; subst ha1
          with_reducible refine wpFac_one rfl (fun w1 hw1 hd => ?_) (fun a1 ha1 => ?_)
          · refine asked rfl ?_
            refine wp_load_row 73 _ rfl (C) rfl 73 (clkC (cmin f g)) (0, 0) _ (hC2.below hw1 hC2.lt).out Try.underlying73 rfl rfl ?_
            refine ⟨rfl, atD_some ?_, Below.refl _ _⟩
            simp [Act.put]
          simp [Act.put] at ha1; subst ha1
          with_reducible refine wpFac_one rfl (fun w1 hw1 hd => ?_) (fun a1 ha1 => ?_)
          · go_simp
            refine (within_is (h) (cmin f g) hm _).mono ?_
            rintro e w3 ⟨rfl, hk⟩
            exact ⟨atD_some (by simp), hk⟩
          simp [Act.put] at ha1; subst ha1
          with_reducible refine wpFac_one rfl (fun w1 hw1 hd => ?_) (fun a1 ha1 => ?_)
          · go_simp
            first | exact rfl | (refine ⟨atD_some ?_, Below.refl _ _⟩; simp)
          simp [Act.put] at ha1; subst ha1
          with_reducible refine wpFac_one rfl (fun w1 hw1 hd => ?_) (fun a1 ha1 => ?_)
          · go_simp
            first | exact rfl | (refine ⟨atD_some ?_, Below.refl _ _⟩; simp)
          simp [Act.put] at ha1; subst ha1
          refine wpFac_nil ?_
          intro w5 hw5 _
          have T3 := T2.next hw5
          clear hw5 T2 hB2 hC2 jh0 hm0 jh hm
          go_wp2
          go_ret
          exact ⟨rfl, T3.e⟩
    · cases q2
      · cases q3
        · have jh : cle (cmax f g) h = false := by rw [jh0, fh, gh]; rfl
          have hm : cle h (cmin f g) = false := by rw [hm0, hf]; rfl
          refine wp_region_fac 26 (fun _ => false) [.one (clkV (f)), .one (clkV (h)), .one (.bool true), .one (.bool true), .one (clkV (g)), .one (clkV (h)), .one (.bool false), .one (.bool false), .one (clkV (cmax f g)), .one (clkV (h)), .one (.bool false), .one (.bool true), .one (.bool true), .one (clkV (h)), .one (clkV (f)), .one (.bool false), .one (.bool false), .one undef, .one undef, .one undef, .one (.bool false), .one (clkV (h)), .one (clkV (cmin f g)), .one (.bool false), .one (.bool true), .one (.bool true)] (by kernel_rfl) (by kernel_rfl) (by kernel_rfl) (by intro F hF; simp at hF) ?goc4
          case goc4 =>
          simp only [List.take_succ_cons, List.take_zero, List.drop_succ_cons, List.drop_zero]
          with_reducible refine wpFac_one rfl (fun w1 hw1 hd => ?_) (fun a1 ha1 => ?_)
          · refine asked rfl ?_
            refine wp_load_row 73 _ rfl (w.heap.size) rfl 73 (clkC (f)) (0, 0) _ (T2.a.below hw1 T2.a.lt).out Try.underlying73 rfl rfl ?_
            refine ⟨rfl, atD_some ?_, Below.refl _ _⟩
            simp [Act.put]
          simp [Act.put] at ha1; subst ha1
          with_reducible refine wpFac_one rfl (fun w1 hw1 hd => ?_) (fun a1 ha1 => ?_)
          · refine asked rfl ?_
            refine wp_load_row 73 _ rfl (w.heap.size + 1 + 1) rfl 73 (clkC (h)) (0, 0) _ (T2.c.below hw1 T2.c.lt).out Try.underlying73 rfl rfl ?_
            refine ⟨rfl, atD_some ?_, Below.refl _ _⟩
            simp [Act.put]
          simp [Act.put] at ha1; subst ha1
          with_reducible refine wpFac_one rfl (fun w1 hw1 hd => ?_) (fun a1 ha1 => ?_)
          · go_simp
            refine (within_is (f) (h) fh _).mono ?_
            rintro e w3 ⟨rfl, hk⟩
            exact ⟨atD_some (by simp), hk⟩
          simp [Act.put] at ha1; subst ha1
          with_reducible refine wpFac_one rfl (fun w1 hw1 hd => ?_) (fun a1 ha1 => ?_)
          · go_simp
            first | exact rfl | (refine ⟨atD_some ?_, Below.refl _ _⟩; simp)
          simp [Act.put] at ha1; subst ha1
          with_reducible refine wpFac_one rfl (fun w1 hw1 hd => ?_) (fun a1 ha1 => ?_)
          · refine asked rfl ?_
            refine wp_load_row 73 _ rfl (w.heap.size + 1) rfl 73 (clkC (g)) (0, 0) _ (T2.b.below hw1 T2.b.lt).out Try.underlying73 rfl rfl ?_
            refine ⟨rfl, atD_some ?_, Below.refl _ _⟩
            simp [Act.put]
          simp [Act.put] at ha1; subst ha1
          with_reducible refine wpFac_one rfl (fun w1 hw1 hd => ?_) (fun a1 ha1 => ?_)
          · refine asked rfl ?_
            refine wp_load_row 73 _ rfl (w.heap.size + 1 + 1) rfl 73 (clkC (h)) (0, 0) _ (T2.c.below hw1 T2.c.lt).out Try.underlying73 rfl rfl ?_
            refine ⟨rfl, atD_some ?_, Below.refl _ _⟩
            simp [Act.put]
          simp [Act.put] at ha1; subst ha1
          with_reducible refine wpFac_one rfl (fun w1 hw1 hd => ?_) (fun a1 ha1 => ?_)
          · go_simp
            refine (within_is (g) (h) gh _).mono ?_
            rintro e w3 ⟨rfl, hk⟩
            exact ⟨atD_some (by simp), hk⟩
          simp [Act.put] at ha1; subst ha1
          with_reducible refine wpFac_one rfl (fun w1 hw1 hd => ?_) (fun a1 ha1 => ?_)
          · go_simp
            first | exact rfl | (refine ⟨atD_some ?_, Below.refl _ _⟩; simp)
          simp [Act.put] at ha1; subst ha1
          with_reducible refine wpFac_one rfl (fun w1 hw1 hd => ?_) (fun a1 ha1 => ?_)
          · refine asked rfl ?_
            refine wp_load_row 73 _ rfl (B) rfl 73 (clkC (cmax f g)) (0, 0) _ (hB2.below hw1 hB2.lt).out Try.underlying73 rfl rfl ?_
            refine ⟨rfl, atD_some ?_, Below.refl _ _⟩
            simp [Act.put]
          simp [Act.put] at ha1; subst ha1
          with_reducible refine wpFac_one rfl (fun w1 hw1 hd => ?_) (fun a1 ha1 => ?_)
          · refine asked rfl ?_
            refine wp_load_row 73 _ rfl (w.heap.size + 1 + 1) rfl 73 (clkC (h)) (0, 0) _ (T2.c.below hw1 T2.c.lt).out Try.underlying73 rfl rfl ?_
            refine ⟨rfl, atD_some ?_, Below.refl _ _⟩
            simp [Act.put]
          simp [Act.put] at ha1; subst ha1
          with_reducible refine wpFac_one rfl (fun w1 hw1 hd => ?_) (fun a1 ha1 => ?_)
          · go_simp
            refine (within_is (cmax f g) (h) jh _).mono ?_
            rintro e w3 ⟨rfl, hk⟩
            exact ⟨atD_some (by simp), hk⟩
          simp [Act.put] at ha1; subst ha1
          with_reducible refine wpFac_one rfl (fun w1 hw1 hd => ?_) (fun a1 ha1 => ?_)
          · go_simp
            first | exact rfl | (refine ⟨atD_some ?_, Below.refl _ _⟩; simp)
          simp [Act.put] at ha1; subst ha1
          with_reducible refine wpFac_one rfl (fun w1 hw1 hd => ?_) (fun a1 ha1 => ?_)
          · go_simp
            first | exact rfl | (refine ⟨atD_some ?_, Below.refl _ _⟩; simp)
          simp [Act.put] at ha1; subst ha1
          with_reducible refine wpFac_one rfl (fun w1 hw1 hd => ?_) (fun a1 ha1 => ?_)
          · refine asked rfl ?_
            refine wp_load_row 73 _ rfl (w.heap.size + 1 + 1) rfl 73 (clkC (h)) (0, 0) _ (T2.c.below hw1 T2.c.lt).out Try.underlying73 rfl rfl ?_
            refine ⟨rfl, atD_some ?_, Below.refl _ _⟩
            simp [Act.put]
          simp [Act.put] at ha1; subst ha1
          with_reducible refine wpFac_one rfl (fun w1 hw1 hd => ?_) (fun a1 ha1 => ?_)
          · refine asked rfl ?_
            refine wp_load_row 73 _ rfl (w.heap.size) rfl 73 (clkC (f)) (0, 0) _ (T2.a.below hw1 T2.a.lt).out Try.underlying73 rfl rfl ?_
            refine ⟨rfl, atD_some ?_, Below.refl _ _⟩
            simp [Act.put]
          simp [Act.put] at ha1; subst ha1
          with_reducible refine wpFac_one rfl (fun w1 hw1 hd => ?_) (fun a1 ha1 => ?_)
          · go_simp
            refine (within_is (h) (f) hf _).mono ?_
            rintro e w3 ⟨rfl, hk⟩
            exact ⟨atD_some (by simp), hk⟩
          simp [Act.put] at ha1; subst ha1
          with_reducible refine wpFac_one rfl (fun w1 hw1 hd => ?_) (fun a1 ha1 => ?_)
          · go_simp
            first | exact rfl | (refine ⟨atD_some ?_, Below.refl _ _⟩; simp)
          simp [Act.put] at ha1; subst ha1
          with_reducible refine wpFac_one rfl (fun w1 hw1 hd => ?_) (fun a1 ha1 => ?_)
          · go_simp
            try exact rfl
          simp [Act.put] at ha1; subst ha1
          with_reducible refine wpFac_one rfl (fun w1 hw1 hd => ?_) (fun a1 ha1 => ?_)
          · go_simp
            try exact rfl
          simp [Act.put] at ha1; subst ha1
          with_reducible refine wpFac_one rfl (fun w1 hw1 hd => ?_) (fun a1 ha1 => ?_)
          · go_simp
            try exact rfl
          simp [Act.put] at ha1; subst ha1
          with_reducible refine wpFac_one rfl (fun w1 hw1 hd => ?_) (fun a1 ha1 => ?_)
          · go_simp
            first | exact rfl | (refine ⟨atD_some ?_, Below.refl _ _⟩; simp)
          simp [Act.put] at ha1; subst ha1
          with_reducible refine wpFac_one rfl (fun w1 hw1 hd => ?_) (fun a1 ha1 => ?_)
          · refine asked rfl ?_
            refine wp_load_row 73 _ rfl (w.heap.size + 1 + 1) rfl 73 (clkC (h)) (0, 0) _ (T2.c.below hw1 T2.c.lt).out Try.underlying73 rfl rfl ?_
            refine ⟨rfl, atD_some ?_, Below.refl _ _⟩
            simp [Act.put]
          simp [Act.put] at ha1; subst ha1
          with_reducible refine wpFac_one rfl (fun w1 hw1 hd => ?_) (fun a1 ha1 => ?_)
          · refine asked rfl ?_
            refine wp_load_row 73 _ rfl (C) rfl 73 (clkC (cmin f g)) (0, 0) _ (hC2.below hw1 hC2.lt).out Try.underlying73 rfl rfl ?_
            refine ⟨rfl, atD_some ?_, Below.refl _ _⟩
            simp [Act.put]
          simp [Act.put] at ha1; subst ha1
          with_reducible refine wpFac_one rfl (fun w1 hw1 hd => ?_) (fun a1 ha1 => ?_)
          · go_simp
            refine (within_is (h) (cmin f g) hm _).mono ?_
            rintro e w3 ⟨rfl, hk⟩
            exact ⟨atD_some (by simp), hk⟩
          simp [Act.put] at ha1; subst ha1
          with_reducible refine wpFac_one rfl (fun w1 hw1 hd => ?_) (fun a1 ha1 => ?_)
          · go_simp
            first | exact rfl | (refine ⟨atD_some ?_, Below.refl _ _⟩; simp)
          simp [Act.put] at ha1; subst ha1
          with_reducible refine wpFac_one rfl (fun w1 hw1 hd => ?_) (fun a1 ha1 => ?_)
          · go_simp
            first | exact rfl | (refine ⟨atD_some ?_, Below.refl _ _⟩; simp)
          simp [Act.put] at ha1; subst ha1
          refine wpFac_nil ?_
          intro w5 hw5 _
          have T3 := T2.next hw5
          clear hw5 T2 hB2 hC2 jh0 hm0 jh hm
          go_wp2
          go_ret
          exact ⟨rfl, T3.e⟩
        · cases q4
          · have jh : cle (cmax f g) h = false := by rw [jh0, fh, gh]; rfl
            have hm : cle h (cmin f g) = false := by rw [hm0, hf, hg]; rfl
            refine wp_region_fac 26 (fun _ => false) [.one (clkV (f)), .one (clkV (h)), .one (.bool true), .one (.bool true), .one (clkV (g)), .one (clkV (h)), .one (.bool false), .one (.bool false), .one (clkV (cmax f g)), .one (clkV (h)), .one (.bool false), .one (.bool true), .one (.bool true), .one (clkV (h)), .one (clkV (f)), .one (.bool true), .one (.bool true), .one (clkV (h)), .one (clkV (g)), .one (.bool false), .one (.bool false), .one (clkV (h)), .one (clkV (cmin f g)), .one (.bool false), .one (.bool true), .one (.bool true)] (by kernel_rfl) (by kernel_rfl) (by kernel_rfl) (by intro F hF; simp at hF) ?goc5
            case goc5 =>
            simp only [List.take_succ_cons, List.take_zero, List.drop_succ_cons, List.drop_zero]
            with_reducible refine wpFac_one rfl (fun w1 hw1 hd => ?_) (fun a1 ha1 => ?_)
            · refine asked rfl ?_
              refine wp_load_row 73 _ rfl (w.heap.size) rfl 73 (clkC (f)) (0, 0) _ (T2.a.below hw1 T2.a.lt).out Try.underlying73 rfl rfl ?_
              refine ⟨rfl, atD_some ?_, Below.refl _ _⟩
              simp [Act.put]
            simp [Act.put] at ha1; subst ha1
            with_reducible refine wpFac_one rfl (fun w1 hw1 hd => ?_) (fun a1 ha1 => ?_)
            · refine asked rfl ?_
              refine wp_load_row 73 _ rfl (w.heap.size + 1 + 1) rfl 73 (clkC (h)) (0, 0) _ (T2.c.below hw1 T2.c.lt).out Try.underlying73 rfl rfl ?_
              refine ⟨rfl, atD_some ?_, Below.refl _ _⟩
              simp [Act.put]
            simp [Act.put] at ha1; subst ha1
            with_reducible refine wpFac_one rfl (fun w1 hw1 hd => ?_) (fun a1 ha1 => ?_)
            · go_simp
              refine (within_is (f) (h) fh _).mono ?_
              rintro e w3 ⟨rfl, hk⟩
              exact ⟨atD_some (by simp), hk⟩
            simp [Act.put] at ha1; subst ha1
            with_reducible refine wpFac_one rfl (fun w1 hw1 hd => ?_) (fun a1 ha1 => ?_)
            · go_simp
              first | exact rfl | (refine ⟨atD_some ?_, Below.refl _ _⟩; simp)
            simp [Act.put] at ha1; subst ha1
            with_reducible refine wpFac_one rfl (fun w1 hw1 hd => ?_) (fun a1 ha1 => ?_)
            · refine asked rfl ?_
              refine wp_load_row 73 _ rfl (w.heap.size + 1) rfl 73 (clkC (g)) (0, 0) _ (T2.b.below hw1 T2.b.lt).out Try.underlying73 rfl rfl ?_
              refine ⟨rfl, atD_some ?_, Below.refl _ _⟩
              simp [Act.put]
            simp [Act.put] at ha1; subst ha1
            with_reducible refine wpFac_one rfl (fun w1 hw1 hd => ?_) (fun a1 ha1 => ?_)
            · refine asked rfl ?_
              refine wp_load_row 73 _ rfl (w.heap.size + 1 + 1) rfl 73 (clkC (h)) (0, 0) _ (T2.c.below hw1 T2.c.lt).out Try.underlying73 rfl rfl ?_
              refine ⟨rfl, atD_some ?_, Below.refl _ _⟩
              simp [Act.put]
            simp [Act.put] at ha1; subst ha1
            with_reducible refine wpFac_one rfl (fun w1 hw1 hd => ?_) (fun a1 ha1 => ?_)
            · go_simp
              refine (within_is (g) (h) gh _).mono ?_
              rintro e w3 ⟨rfl, hk⟩
              exact ⟨atD_some (by simp), hk⟩
            simp [Act.put] at ha1; subst ha1
            with_reducible refine wpFac_one rfl (fun w1 hw1 hd => ?_) (fun a1 ha1 => ?_)
            · go_simp
              first | exact rfl | (refine ⟨atD_some ?_, Below.refl _ _⟩; simp)
            simp [Act.put] at ha1; subst ha1
            with_reducible refine wpFac_one rfl (fun w1 hw1 hd => ?_) (fun a1 ha1 => ?_)
            · refine asked rfl ?_
              refine wp_load_row 73 _ rfl (B) rfl 73 (clkC (cmax f g)) (0, 0) _ (hB2.below hw1 hB2.lt).out Try.underlying73 rfl rfl ?_
              refine ⟨rfl, atD_some ?_, Below.refl _ _⟩
              simp [Act.put]
            simp [Act.put] at ha1; subst ha1
            with_reducible refine wpFac_one rfl (fun w1 hw1 hd => ?_) (fun a1 ha1 => ?_)
            · refine asked rfl ?_
              refine wp_load_row 73 _ rfl (w.heap.size + 1 + 1) rfl 73 (clkC (h)) (0, 0) _ (T2.c.below hw1 T2.c.lt).out Try.underlying73 rfl rfl ?_
              refine ⟨rfl, atD_some ?_, Below.refl _ _⟩
              simp [Act.put]
            simp [Act.put] at ha1; subst ha1
            with_reducible refine wpFac_one rfl (fun w1 hw1 hd => ?_) (fun a1 ha1 => ?_)
            · go_simp
              refine (within_is (cmax f g) (h) jh _).mono ?_
              rintro e w3 ⟨rfl, hk⟩
              exact ⟨atD_some (by simp), hk⟩
            simp [Act.put] at ha1; subst ha1
            with_reducible refine wpFac_one rfl (fun w1 hw1 hd => ?_) (fun a1 ha1 => ?_)
            · go_simp
              first | exact rfl | (refine ⟨atD_some ?_, Below.refl _ _⟩; simp)
            simp [Act.put] at ha1; subst ha1
            with_reducible refine wpFac_one rfl (fun w1 hw1 hd => ?_) (fun a1 ha1 => ?_)
            · go_simp
              first | exact rfl | (refine ⟨atD_some ?_, Below.refl _ _⟩; simp)
            simp [Act.put] at ha1; subst ha1
            with_reducible refine wpFac_one rfl (fun w1 hw1 hd => ?_) (fun a1 ha1 => ?_)
            · refine asked rfl ?_
              refine wp_load_row 73 _ rfl (w.heap.size + 1 + 1) rfl 73 (clkC (h)) (0, 0) _ (T2.c.below hw1 T2.c.lt).out Try.underlying73 rfl rfl ?_
              refine ⟨rfl, atD_some ?_, Below.refl _ _⟩
              simp [Act.put]
            simp [Act.put] at ha1; subst ha1
            with_reducible refine wpFac_one rfl (fun w1 hw1 hd => ?_) (fun a1 ha1 => ?_)
            · refine asked rfl ?_
              refine wp_load_row 73 _ rfl (w.heap.size) rfl 73 (clkC (f)) (0, 0) _ (T2.a.below hw1 T2.a.lt).out Try.underlying73 rfl rfl ?_
              refine ⟨rfl, atD_some ?_, Below.refl _ _⟩
              simp [Act.put]
            simp [Act.put] at ha1; subst ha1
            with_reducible refine wpFac_one rfl (fun w1 hw1 hd => ?_) (fun a1 ha1 => ?_)
            · go_simp
              refine (within_is (h) (f) hf _).mono ?_
              rintro e w3 ⟨rfl, hk⟩
              exact ⟨atD_some (by simp), hk⟩
            simp [Act.put] at ha1; subst ha1
            with_reducible refine wpFac_one rfl (fun w1 hw1 hd => ?_) (fun a1 ha1 => ?_)
            · go_simp
              first | exact rfl | (refine ⟨atD_some ?_, Below.refl _ _⟩; simp)
            simp [Act.put] at ha1; subst ha1
            with_reducible refine wpFac_one rfl (fun w1 hw1 hd => ?_) (fun a1 ha1 => ?_)
            · refine asked rfl ?_
              refine wp_load_row 73 _ rfl (w.heap.size + 1 + 1) rfl 73 (clkC (h)) (0, 0) _ (T2.c.below hw1 T2.c.lt).out Try.underlying73 rfl rfl ?_
              refine ⟨rfl, atD_some ?_, Below.refl _ _⟩
              simp [Act.put]
            simp [Act.put] at ha1; subst ha1
            with_reducible refine wpFac_one rfl (fun w1 hw1 hd => ?_) (fun a1 ha1 => ?_)
            · refine asked rfl ?_
              refine wp_load_row 73 _ rfl (w.heap.size + 1) rfl 73 (clkC (g)) (0, 0) _ (T2.b.below hw1 T2.b.lt).out Try.underlying73 rfl rfl ?_
              refine ⟨rfl, atD_some ?_, Below.refl _ _⟩
              simp [Act.put]
            simp [Act.put] at ha1; subst ha1
            with_reducible refine wpFac_one rfl (fun w1 hw1 hd => ?_) (fun a1 ha1 => ?_)
            · go_simp
              refine (within_is (h) (g) hg _).mono ?_
              rintro e w3 ⟨rfl, hk⟩
              exact ⟨atD_some (by simp), hk⟩
            simp [Act.put] at ha1; subst ha1
            with_reducible refine wpFac_one rfl (fun w1 hw1 hd => ?_) (fun a1 ha1 => ?_)
            · go_simp
              first | exact rfl | (refine ⟨atD_some ?_, Below.refl _ _⟩; simp)
            simp [Act.put] at ha1; subst ha1
            with_reducible refine wpFac_one rfl (fun w1 hw1 hd => ?_) (fun a1 ha1 => ?_)
            · refine asked rfl ?_
              refine wp_load_row 73 _ rfl (w.heap.size + 1 + 1) rfl 73 (clkC (h)) (0, 0) _ (T2.c.below hw1 T2.c.lt).out Try.underlying73 rfl rfl ?_
              refine ⟨rfl, atD_some ?_, Below.refl _ _⟩
              simp [Act.put]
            simp [Act.put] at ha1; subst ha1
            with_reducible refine wpFac_one rfl (fun w1 hw1 hd => ?_) (fun a1 ha1 => ?_)
            · refine asked rfl ?_
              refine wp_load_row 73 _ rfl (C) rfl 73 (clkC (cmin f g)) (0, 0) _ (hC2.below hw1 hC2.lt).out Try.underlying73 rfl rfl ?_
              refine ⟨rfl, atD_some ?_, Below.refl _ _⟩
              simp [Act.put]
            simp [Act.put] at ha1; subst ha1
            with_reducible refine wpFac_one rfl (fun w1 hw1 hd => ?_) (fun a1 ha1 => ?_)
            · go_simp
              refine (within_is (h) (cmin f g) hm _).mono ?_
              rintro e w3 ⟨rfl, hk⟩
              exact ⟨atD_some (by simp), hk⟩
            simp [Act.put] at ha1; subst ha1
            with_reducible refine wpFac_one rfl (fun w1 hw1 hd => ?_) (fun a1 ha1 => ?_)
            · go_simp
              first | exact rfl | (refine ⟨atD_some ?_, Below.refl _ _⟩; simp)
            simp [Act.put] at ha1; subst ha1
            with_reducible refine wpFac_one rfl (fun w1 hw1 hd => ?_) (fun a1 ha1 => ?_)
            · go_simp
              first | exact rfl | (refine ⟨atD_some ?_, Below.refl _ _⟩; simp)
            simp [Act.put] at ha1; subst ha1
            refine wpFac_nil ?_
            intro w5 hw5 _
            have T3 := T2.next hw5
            clear hw5 T2 hB2 hC2 jh0 hm0 jh hm
            go_wp2
            go_ret
            exact ⟨rfl, T3.e⟩
          · have jh : cle (cmax f g) h = false := by rw [jh0, fh, gh]; rfl
            have hm : cle h (cmin f g) = true := by rw [hm0, hf, hg]; rfl
            refine wp_region_fac 26 (fun _ => false) [.one (clkV (f)), .one (clkV (h)), .one (.bool true), .one (.bool true), .one (clkV (g)), .one (clkV (h)), .one (.bool false), .one (.bool false), .one (clkV (cmax f g)), .one (clkV (h)), .one (.bool false), .one (.bool true), .one (.bool true), .one (clkV (h)), .one (clkV (f)), .one (.bool true), .one (.bool true), .one (clkV (h)), .one (clkV (g)), .one (.bool true), .one (.bool true), .one (clkV (h)), .one (clkV (cmin f g)), .one (.bool true), .one (.bool true), .one (.bool true)] (by kernel_rfl) (by kernel_rfl) (by kernel_rfl) (by intro F hF; simp at hF) ?goc6
            case goc6 =>
            simp only [List.take_succ_cons, List.take_zero, List.drop_succ_cons, List.drop_zero]
            with_reducible refine wpFac_one rfl (fun w1 hw1 hd => ?_) (fun a1 ha1 => ?_)
            · refine asked rfl ?_
              refine wp_load_row 73 _ rfl (w.heap.size) rfl 73 (clkC (f)) (0, 0) _ (T2.a.below hw1 T2.a.lt).out Try.underlying73 rfl rfl ?_
              refine ⟨rfl, atD_some ?_, Below.refl _ _⟩
              simp [Act.put]
            simp [Act.put] at ha1; subst ha1
            with_reducible refine wpFac_one rfl (fun w1 hw1 hd => ?_) (fun a1 ha1 => ?_)
            · refine asked rfl ?_
              refine wp_load_row 73 _ rfl (w.heap.size + 1 + 1) rfl 73 (clkC (h)) (0, 0) _ (T2.c.below hw1 T2.c.lt).out Try.underlying73 rfl rfl ?_
              refine ⟨rfl, atD_some ?_, Below.refl _ _⟩
              simp [Act.put]
            simp [Act.put] at ha1; subst ha1
            with_reducible refine wpFac_one rfl (fun w1 hw1 hd => ?_) (fun a1 ha1 => ?_)
            · go_simp
              refine (within_is (f) (h) fh _).mono ?_
              rintro e w3 ⟨rfl, hk⟩
              exact ⟨atD_some (by simp), hk⟩
            simp [Act.put] at ha1; subst ha1
            with_reducible refine wpFac_one rfl (fun w1 hw1 hd => ?_) (fun a1 ha1 => ?_)
            · go_simp
              first | exact rfl | (refine ⟨atD_some ?_, Below.refl _ _⟩; simp)
            simp [Act.put] at ha1; subst ha1
            with_reducible refine wpFac_one rfl (fun w1 hw1 hd => ?_) (fun a1 ha1 => ?_)
            · refine asked rfl ?_
              refine wp_load_row 73 _ rfl (w.heap.size + 1) rfl 73 (clkC (g)) (0, 0) _ (T2.b.below hw1 T2.b.lt).out Try.underlying73 rfl rfl ?_
              refine ⟨rfl, atD_some ?_, Below.refl _ _⟩
              simp [Act.put]
            simp [Act.put] at ha1; subst ha1
            with_reducible refine wpFac_one rfl (fun w1 hw1 hd => ?_) (fun a1 ha1 => ?_)
            · refine asked rfl ?_
              refine wp_load_row 73 _ rfl (w.heap.size + 1 + 1) rfl 73 (clkC (h)) (0, 0) _ (T2.c.below hw1 T2.c.lt).out Try.underlying73 rfl rfl ?_
              refine ⟨rfl, atD_some ?_, Below.refl _ _⟩
              simp [Act.put]
            simp [Act.put] at ha1; subst ha1
            with_reducible refine wpFac_one rfl (fun w1 hw1 hd => ?_) (fun a1 ha1 => ?_)
            · go_simp
              refine (within_is (g) (h) gh _).mono ?_
              rintro e w3 ⟨rfl, hk⟩
              exact ⟨atD_some (by simp), hk⟩
            simp [Act.put] at ha1; subst ha1
            with_reducible refine wpFac_one rfl (fun w1 hw1 hd => ?_) (fun a1 ha1 => ?_)
            · go_simp
              first | exact rfl | (refine ⟨atD_some ?_, Below.refl _ _⟩; simp)
            simp [Act.put] at ha1; subst ha1
            with_reducible refine wpFac_one rfl (fun w1 hw1 hd => ?_) (fun a1 ha1 => ?_)
            · refine asked rfl ?_
              refine wp_load_row 73 _ rfl (B) rfl 73 (clkC (cmax f g)) (0, 0) _ (hB2.below hw1 hB2.lt).out Try.underlying73 rfl rfl ?_
              refine ⟨rfl, atD_some ?_, Below.refl _ _⟩
              simp [Act.put]
            simp [Act.put] at ha1; subst ha1
            with_reducible refine wpFac_one rfl (fun w1 hw1 hd => ?_) (fun a1 ha1 => ?_)
            · refine asked rfl ?_
              refine wp_load_row 73 _ rfl (w.heap.size + 1 + 1) rfl 73 (clkC (h)) (0, 0) _ (T2.c.below hw1 T2.c.lt).out Try.underlying73 rfl rfl ?_
              refine ⟨rfl, atD_some ?_, Below.refl _ _⟩
              simp [Act.put]
            simp [Act.put] at ha1; subst ha1
            with_reducible refine wpFac_one rfl (fun w1 hw1 hd => ?_) (fun a1 ha1 => ?_)
            · go_simp
              refine (within_is (cmax f g) (h) jh _).mono ?_
              rintro e w3 ⟨rfl, hk⟩
              exact ⟨atD_some (by simp), hk⟩
            simp [Act.put] at ha1; subst ha1
            with_reducible refine wpFac_one rfl (fun w1 hw1 hd => ?_) (fun a1 ha1 => ?_)
            · go_simp
              first | exact rfl | (refine ⟨atD_some ?_, Below.refl _ _⟩; simp)
            simp [Act.put] at ha1; subst ha1
            with_reducible refine wpFac_one rfl (fun w1 hw1 hd => ?_) (fun a1 ha1 => ?_)
            · go_simp
              first | exact rfl | (refine ⟨atD_some ?_, Below.refl _ _⟩; simp)
            simp [Act.put] at ha1; subst ha1
            with_reducible refine wpFac_one rfl (fun w1 hw1 hd => ?_) (fun a1 ha1 => ?_)
            · refine asked rfl ?_
              refine wp_load_row 73 _ rfl (w.heap.size + 1 + 1) rfl 73 (clkC (h)) (0, 0) _ (T2.c.below hw1 T2.c.lt).out Try.underlying73 rfl rfl ?_
              refine ⟨rfl, atD_some ?_, Below.refl _ _⟩
              simp [Act.put]
            simp [Act.put] at ha1; subst ha1
            with_reducible refine wpFac_one rfl (fun w1 hw1 hd => ?_) (fun a1 ha1 => ?_)
            · refine asked rfl ?_
              refine wp_load_row 73 _ rfl (w.heap.size) rfl 73 (clkC (f)) (0, 0) _ (T2.a.below hw1 T2.a.lt).out Try.underlying73 rfl rfl ?_
              refine ⟨rfl, atD_some ?_, Below.refl _ _⟩
              simp [Act.put]
            simp [Act.put] at ha1; subst ha1
            with_reducible refine wpFac_one rfl (fun w1 hw1 hd => ?_) (fun a1 ha1 => ?_)
            · go_simp
              refine (within_is (h) (f) hf _).mono ?_
              rintro e w3 ⟨rfl, hk⟩
              exact ⟨atD_some (by simp), hk⟩
            simp [Act.put] at ha1; subst ha1
            with_reducible refine wpFac_one rfl (fun w1 hw1 hd => ?_) (fun a1 ha1 => ?_)
            · go_simp
              first | exact rfl | (refine ⟨atD_some ?_, Below.refl _ _⟩; simp)
            simp [Act.put] at ha1; subst ha1
            with_reducible refine wpFac_one rfl (fun w1 hw1 hd => ?_) (fun a1 ha1 => ?_)
            · refine asked rfl ?_
              refine wp_load_row 73 _ rfl (w.heap.size + 1 + 1) rfl 73 (clkC (h)) (0, 0) _ (T2.c.below hw1 T2.c.lt).out Try.underlying73 rfl rfl ?_
              refine ⟨rfl, atD_some ?_, Below.refl _ _⟩
              simp [Act.put]
            simp [Act.put] at ha1; subst ha1
            with_reducible refine wpFac_one rfl (fun w1 hw1 hd => ?_) (fun a1 ha1 => ?_)
            · refine asked rfl ?_
              refine wp_load_row 73 _ rfl (w.heap.size + 1) rfl 73 (clkC (g)) (0, 0) _ (T2.b.below hw1 T2.b.lt).out Try.underlying73 rfl rfl ?_
              refine ⟨rfl, atD_some ?_, Below.refl _ _⟩
              simp [Act.put]
            simp [Act.put] at ha1; subst ha1
            with_reducible refine wpFac_one rfl (fun w1 hw1 hd => ?_) (fun a1 ha1 => ?_)
            · go_simp
              refine (within_is (h) (g) hg _).mono ?_
              rintro e w3 ⟨rfl, hk⟩
              exact ⟨atD_some (by simp), hk⟩
            simp [Act.put] at ha1; subst ha1
            with_reducible refine wpFac_one rfl (fun w1 hw1 hd => ?_) (fun a1 ha1 => ?_)
            · go_simp
              first | exact rfl | (refine ⟨atD_some ?_, Below.refl _ _⟩; simp)
            simp [Act.put] at ha1; subst ha1
            with_reducible refine wpFac_one rfl (fun w1 hw1 hd => ?_) (fun a1 ha1 => ?_)
            · refine asked rfl ?_
              refine wp_load_row 73 _ rfl (w.heap.size + 1 + 1) rfl 73 (clkC (h)) (0, 0) _ (T2.c.below hw1 T2.c.lt).out Try.underlying73 rfl rfl ?_
              refine ⟨rfl, atD_some ?_, Below.refl _ _⟩
              simp [Act.put]
            simp [Act.put] at ha1; subst ha1
            with_reducible refine wpFac_one rfl (fun w1 hw1 hd => ?_) (fun a1 ha1 => ?_)
            · refine asked rfl ?_
              refine wp_load_row 73 _ rfl (C) rfl 73 (clkC (cmin f g)) (0, 0) _ (hC2.below hw1 hC2.lt).out Try.underlying73 rfl rfl ?_
              refine ⟨rfl, atD_some ?_, Below.refl _ _⟩
              simp [Act.put]
            simp [Act.put] at ha1; subst ha1
            with_reducible refine wpFac_one rfl (fun w1 hw1 hd => ?_) (fun a1 ha1 => ?_)
            · go_simp
              refine (within_is (h) (cmin f g) hm _).mono ?_
              rintro e w3 ⟨rfl, hk⟩
              exact ⟨atD_some (by simp), hk⟩
            simp [Act.put] at ha1; subst ha1
            with_reducible refine wpFac_one rfl (fun w1 hw1 hd => ?_) (fun a1 ha1 => ?_)
            · go_simp
              first | exact rfl | (refine ⟨atD_some ?_, Below.refl _ _⟩; simp)
            simp [Act.put] at ha1; subst ha1
            with_reducible refine wpFac_one rfl (fun w1 hw1 hd => ?_) (fun a1 ha1 => ?_)
            · go_simp
              first | exact rfl | (refine ⟨atD_some ?_, Below.refl _ _⟩; simp)
            simp [Act.put] at ha1; subst ha1
            refine wpFac_nil ?_
            intro w5 hw5 _
            have T3 := T2.next hw5
            clear hw5 T2 hB2 hC2 jh0 hm0 jh hm
            go_wp2
            go_ret
            exact ⟨rfl, T3.e⟩
      · cases q3
        · have jh : cle (cmax f g) h = true := by rw [jh0, fh, gh]; rfl
          have hm : cle h (cmin f g) = false := by rw [hm0, hf]; rfl
          refine wp_region_fac 26 (fun _ => false) [.one (clkV (f)), .one (clkV (h)), .one (.bool true), .one (.bool true), .one (clkV (g)), .one (clkV (h)), .one (.bool true), .one (.bool true), .one (clkV (cmax f g)), .one (clkV (h)), .one (.bool true), .one (.bool true), .one (.bool true), .one (clkV (h)), .one (clkV (f)), .one (.bool false), .one (.bool false), .one undef, .one undef, .one undef, .one (.bool false), .one (clkV (h)), .one (clkV (cmin f g)), .one (.bool false), .one (.bool true), .one (.bool true)] (by kernel_rfl) (by kernel_rfl) (by kernel_rfl) (by intro F hF; simp at hF) ?goc7
          case goc7 =>
          simp only [List.take_succ_cons, List.take_zero, List.drop_succ_cons, List.drop_zero]
          with_reducible refine wpFac_one rfl (fun w1 hw1 hd => ?_) (fun a1 ha1 => ?_)
          · refine asked rfl ?_
            refine wp_load_row 73 _ rfl (w.heap.size) rfl 73 (clkC (f)) (0, 0) _ (T2.a.below hw1 T2.a.lt).out Try.underlying73 rfl rfl ?_
            refine ⟨rfl, atD_some ?_, Below.refl _ _⟩
            simp [Act.put]
          simp [Act.put] at ha1; subst ha1
          with_reducible refine wpFac_one rfl (fun w1 hw1 hd => ?_) (fun a1 ha1 => ?_)
          · refine asked rfl ?_
            refine wp_load_row 73 _ rfl (w.heap.size + 1 + 1) rfl 73 (clkC (h)) (0, 0) _ (T2.c.below hw1 T2.c.lt).out Try.underlying73 rfl rfl ?_
            refine ⟨rfl, atD_some ?_, Below.refl _ _⟩
            simp [Act.put]
          simp [Act.put] at ha1; subst ha1
          with_reducible refine wpFac_one rfl (fun w1 hw1 hd => ?_) (fun a1 ha1 => ?_)
          · go_simp
            refine (within_is (f) (h) fh _).mono ?_
            rintro e w3 ⟨rfl, hk⟩
            exact ⟨atD_some (by simp), hk⟩
          simp [Act.put] at ha1; subst ha1
          with_reducible refine wpFac_one rfl (fun w1 hw1 hd => ?_) (fun a1 ha1 => ?_)
          · go_simp
            first | exact rfl | (refine ⟨atD_some ?_, Below.refl _ _⟩; simp)
          simp [Act.put] at ha1; subst ha1
          with_reducible refine wpFac_one rfl (fun w1 hw1 hd => ?_) (fun a1 ha1 => ?_)
          · refine asked rfl ?_
            refine wp_load_row 73 _ rfl (w.heap.size + 1) rfl 73 (clkC (g)) (0, 0) _ (T2.b.below hw1 T2.b.lt).out Try.underlying73 rfl rfl ?_
            refine ⟨rfl, atD_some ?_, Below.refl _ _⟩
            simp [Act.put]
          simp [Act.put] at ha1; subst ha1
          with_reducible refine wpFac_one rfl (fun w1 hw1 hd => ?_) (fun a1 ha1 => ?_)
          · refine asked rfl ?_
            refine wp_load_row 73 _ rfl (w.heap.size + 1 + 1) rfl 73 (clkC (h)) (0, 0) _ (T2.c.below hw1 T2.c.lt).out Try.underlying73 rfl rfl ?_
            refine ⟨rfl, atD_some ?_, Below.refl _ _⟩
            simp [Act.put]
          simp [Act.put] at ha1; subst ha1
          with_reducible refine wpFac_one rfl (fun w1 hw1 hd => ?_) (fun a1 ha1 => ?_)
          · go_simp
            refine (within_is (g) (h) gh _).mono ?_
            rintro e w3 ⟨rfl, hk⟩
            exact ⟨atD_some (by simp), hk⟩
          simp [Act.put] at ha1; subst ha1
          with_reducible refine wpFac_one rfl (fun w1 hw1 hd => ?_) (fun a1 ha1 => ?_)
          · go_simp
            first | exact rfl | (refine ⟨atD_some ?_, Below.refl _ _⟩; simp)
          simp [Act.put] at ha1; subst ha1
          with_reducible refine wpFac_one rfl (fun w1 hw1 hd => ?_) (fun a1 ha1 => ?_)
          · refine asked rfl ?_
            refine wp_load_row 73 _ rfl (B) rfl 73 (clkC (cmax f g)) (0, 0) _ (hB2.below hw1 hB2.lt).out Try.underlying73 rfl rfl ?_
            refine ⟨rfl, atD_some ?_, Below.refl _ _⟩
            simp [Act.put]
          simp [Act.put] at ha1; subst ha1
          with_reducible refine wpFac_one rfl (fun w1 hw1 hd => ?_) (fun a1 ha1 => ?_)
          · refine asked rfl ?_
            refine wp_load_row 73 _ rfl (w.heap.size + 1 + 1) rfl 73 (clkC (h)) (0, 0) _ (T2.c.below hw1 T2.c.lt).out Try.underlying73 rfl rfl ?_
            refine ⟨rfl, atD_some ?_, Below.refl _ _⟩
            simp [Act.put]
          simp [Act.put] at ha1; subst ha1
          with_reducible refine wpFac_one rfl (fun w1 hw1 hd => ?_) (fun a1 ha1 => ?_)
          · go_simp
            refine (within_is (cmax f g) (h) jh _).mono ?_
            rintro e w3 ⟨rfl, hk⟩
            exact ⟨atD_some (by simp), hk⟩
          simp [Act.put] at ha1; subst ha1
          with_reducible refine wpFac_one rfl (fun w1 hw1 hd => ?_) (fun a1 ha1 => ?_)
          · go_simp
            first | exact rfl | (refine ⟨atD_some ?_, Below.refl _ _⟩; simp)
          simp [Act.put] at ha1; subst ha1
          with_reducible refine wpFac_one rfl (fun w1 hw1 hd => ?_) (fun a1 ha1 => ?_)
          · go_simp
            first | exact rfl | (refine ⟨atD_some ?_, Below.refl _ _⟩; simp)
          simp [Act.put] at ha1; subst ha1
          with_reducible refine wpFac_one rfl (fun w1 hw1 hd => ?_) (fun a1 ha1 => ?_)
          · refine asked rfl ?_
            refine wp_load_row 73 _ rfl (w.heap.size + 1 + 1) rfl 73 (clkC (h)) (0, 0) _ (T2.c.below hw1 T2.c.lt).out Try.underlying73 rfl rfl ?_
            refine ⟨rfl, atD_some ?_, Below.refl _ _⟩
            simp [Act.put]
          simp [Act.put] at ha1; subst ha1
          with_reducible refine wpFac_one rfl (fun w1 hw1 hd => ?_) (fun a1 ha1 => ?_)
          · refine asked rfl ?_
            refine wp_load_row 73 _ rfl (w.heap.size) rfl 73 (clkC (f)) (0, 0) _ (T2.a.below hw1 T2.a.lt).out Try.underlying73 rfl rfl ?_
            refine ⟨rfl, atD_some ?_, Below.refl _ _⟩
            simp [Act.put]
          simp [Act.put] at ha1; subst ha1
          with_reducible refine wpFac_one rfl (fun w1 hw1 hd => ?_) (fun a1 ha1 => ?_)
          · go_simp
            refine (within_is (h) (f) hf _).mono ?_
            rintro e w3 ⟨rfl, hk⟩
            exact ⟨atD_some (by simp), hk⟩
          simp [Act.put] at ha1; subst ha1
          with_reducible refine wpFac_one rfl (fun w1 hw1 hd => ?_) (fun a1 ha1 => ?_)
          · go_simp
            first | exact rfl | (refine ⟨atD_some ?_, Below.refl _ _⟩; simp)
          simp [Act.put] at ha1; subst ha1
          with_reducible refine wpFac_one rfl (fun w1 hw1 hd => ?_) (fun a1 ha1 => ?_)
          · go_simp
            try exact rfl
          simp [Act.put] at ha1; subst ha1
          with_reducible refine wpFac_one rfl (fun w1 hw1 hd => ?_) (fun a1 ha1 => ?_)
          · go_simp
            try exact rfl
          simp [Act.put] at ha1; subst ha1
          with_reducible refine wpFac_one rfl (fun w1 hw1 hd => ?_) (fun a1 ha1 => ?_)
          · go_simp
            try exact rfl
          simp [Act.put] at ha1; subst ha1
          with_reducible refine wpFac_one rfl (fun w1 hw1 hd => ?_) (fun a1 ha1 => ?_)
          · go_simp
            first | exact rfl | (refine ⟨atD_some ?_, Below.refl _ _⟩; simp)
          simp [Act.put] at ha1; subst ha1
          with_reducible refine wpFac_one rfl (fun w1 hw1 hd => ?_) (fun a1 ha1 => ?_)
          · refine asked rfl ?_
            refine wp_load_row 73 _ rfl (w.heap.size + 1 + 1) rfl 73 (clkC (h)) (0, 0) _ (T2.c.below hw1 T2.c.lt).out Try.underlying73 rfl rfl ?_
            refine ⟨rfl, atD_some ?_, Below.refl _ _⟩
            simp [Act.put]
          simp [Act.put] at ha1; subst ha1
          with_reducible refine wpFac_one rfl (fun w1 hw1 hd => ?_) (fun a1 ha1 => ?_)
          · refine asked rfl ?_
            refine wp_load_row 73 _ rfl (C) rfl 73 (clkC (cmin f g)) (0, 0) _ (hC2.below hw1 hC2.lt).out Try.underlying73 rfl rfl ?_
            refine ⟨rfl, atD_some ?_, Below.refl _ _⟩
            simp [Act.put]
          simp [Act.put] at ha1; subst ha1
          with_reducible refine wpFac_one rfl (fun w1 hw1 hd => ?_) (fun a1 ha1 => ?_)
          · go_simp
            refine (within_is (h) (cmin f g) hm _).mono ?_
            rintro e w3 ⟨rfl, hk⟩
            exact ⟨atD_some (by simp), hk⟩
          simp [Act.put] at ha1; subst ha1
          with_reducible refine wpFac_one rfl (fun w1 hw1 hd => ?_) (fun a1 ha1 => ?_)
          · go_simp
            first | exact rfl | (refine ⟨atD_some ?_, Below.refl _ _⟩; simp)
          simp [Act.put] at ha1; subst ha1
          with_reducible refine wpFac_one rfl (fun w1 hw1 hd => ?_) (fun a1 ha1 => ?_)
          · go_simp
            first | exact rfl | (refine ⟨atD_some ?_, Below.refl _ _⟩; simp)
          simp [Act.put] at ha1; subst ha1
          refine wpFac_nil ?_
          intro w5 hw5 _
          have T3 := T2.next hw5
          clear hw5 T2 hB2 hC2 jh0 hm0 jh hm
          go_wp2
          go_ret
          exact ⟨rfl, T3.e⟩
        · cases q4
          · have jh : cle (cmax f g) h = true := by rw [jh0, fh, gh]; rfl
            have hm : cle h (cmin f g) = false := by rw [hm0, hf, hg]; rfl
            refine wp_region_fac 26 (fun _ => false) [.one (clkV (f)), .one (clkV (h)), .one (.bool true), .one (.bool true), .one (clkV (g)), .one (clkV (h)), .one (.bool true), .one (.bool true), .one (clkV (cmax f g)), .one (clkV (h)), .one (.bool true), .one (.bool true), .one (.bool true), .one (clkV (h)), .one (clkV (f)), .one (.bool true), .one (.bool true), .one (clkV (h)), .one (clkV (g)), .one (.bool false), .one (.bool false), .one (clkV (h)), .one (clkV (cmin f g)), .one (.bool false), .one (.bool true), .one (.bool true)] (by kernel_rfl) (by kernel_rfl) (by kernel_rfl) (by intro F hF; simp at hF) ?goc8
            case goc8 =>
            simp only [List.take_succ_cons, List.take_zero, List.drop_succ_cons, List.drop_zero]
            with_reducible refine wpFac_one rfl (fun w1 hw1 hd => ?_) (fun a1 ha1 => ?_)
            · refine asked rfl ?_
              refine wp_load_row 73 _ rfl (w.heap.size) rfl 73 (clkC (f)) (0, 0) _ (T2.a.below hw1 T2.a.lt).out Try.underlying73 rfl rfl ?_
              refine ⟨rfl, atD_some ?_, Below.refl _ _⟩
              simp [Act.put]
            simp [Act.put] at ha1; subst ha1
            with_reducible refine wpFac_one rfl (fun w1 hw1 hd => ?_) (fun a1 ha1 => ?_)
            · refine asked rfl ?_
              refine wp_load_row 73 _ rfl (w.heap.size + 1 + 1) rfl 73 (clkC (h)) (0, 0) _ (T2.c.below hw1 T2.c.lt).out Try.underlying73 rfl rfl ?_
              refine ⟨rfl, atD_some ?_, Below.refl _ _⟩
              simp [Act.put]
            simp [Act.put] at ha1; subst ha1
            with_reducible refine wpFac_one rfl (fun w1 hw1 hd => ?_) (fun a1 ha1 => ?_)
            · go_simp
              refine (within_is (f) (h) fh _).mono ?_
              rintro e w3 ⟨rfl, hk⟩
              exact ⟨atD_some (by simp), hk⟩
            simp [Act.put] at ha1; subst ha1
            with_reducible refine wpFac_one rfl (fun w1 hw1 hd => ?_) (fun a1 ha1 => ?_)
            · go_simp
              first | exact rfl | (refine ⟨atD_some ?_, Below.refl _ _⟩; simp)
            simp [Act.put] at ha1; subst ha1
            with_reducible refine wpFac_one rfl (fun w1 hw1 hd => ?_) (fun a1 ha1 => ?_)
            · refine asked rfl ?_
              refine wp_load_row 73 _ rfl (w.heap.size + 1) rfl 73 (clkC (g)) (0, 0) _ (T2.b.below hw1 T2.b.lt).out Try.underlying73 rfl rfl ?_
              refine ⟨rfl, atD_some ?_, Below.refl _ _⟩
              simp [Act.put]
            simp [Act.put] at ha1; subst ha1
            with_reducible refine wpFac_one rfl (fun w1 hw1 hd => ?_) (fun a1 ha1 => ?_)
            · refine asked rfl ?_
              refine wp_load_row 73 _ rfl (w.heap.size + 1 + 1) rfl 73 (clkC (h)) (0, 0) _ (T2.c.below hw1 T2.c.lt).out Try.underlying73 rfl rfl ?_
              refine ⟨rfl, atD_some ?_, Below.refl _ _⟩
              simp [Act.put]
            simp [Act.put] at ha1; subst ha1
            with_reducible refine wpFac_one rfl (fun w1 hw1 hd => ?_) (fun a1 ha1 => ?_)
            · go_simp
              refine (within_is (g) (h) gh _).mono ?_
              rintro e w3 ⟨rfl, hk⟩
              exact ⟨atD_some (by simp), hk⟩
            simp [Act.put] at ha1; subst ha1
            with_reducible refine wpFac_one rfl (fun w1 hw1 hd => ?_) (fun a1 ha1 => ?_)
            · go_simp
              first | exact rfl | (refine ⟨atD_some ?_, Below.refl _ _⟩; simp)
            simp [Act.put] at ha1; subst ha1
            with_reducible refine wpFac_one rfl (fun w1 hw1 hd => ?_) (fun a1 ha1 => ?_)
            · refine asked rfl ?_
              refine wp_load_row 73 _ rfl (B) rfl 73 (clkC (cmax f g)) (0, 0) _ (hB2.below hw1 hB2.lt).out Try.underlying73 rfl rfl ?_
              refine ⟨rfl, atD_some ?_, Below.refl _ _⟩
              simp [Act.put]
            simp [Act.put] at ha1; subst ha1
            with_reducible refine wpFac_one rfl (fun w1 hw1 hd => ?_) (fun a1 ha1 => ?_)
            · refine asked rfl ?_
              refine wp_load_row 73 _ rfl (w.heap.size + 1 + 1) rfl 73 (clkC (h)) (0, 0) _ (T2.c.below hw1 T2.c.lt).out Try.underlying73 rfl rfl ?_
              refine ⟨rfl, atD_some ?_, Below.refl _ _⟩
              simp [Act.put]
            simp [Act.put] at ha1; subst ha1
            with_reducible refine wpFac_one rfl (fun w1 hw1 hd => ?_) (fun a1 ha1 => ?_)
            · go_simp
              refine (within_is (cmax f g) (h) jh _).mono ?_
              rintro e w3 ⟨rfl, hk⟩
              exact ⟨atD_some (by simp), hk⟩
            simp [Act.put] at ha1; subst ha1
            with_reducible refine wpFac_one rfl (fun w1 hw1 hd => ?_) (fun a1 ha1 => ?_)
            · go_simp
              first | exact rfl | (refine ⟨atD_some ?_, Below.refl _ _⟩; simp)
            simp [Act.put] at ha1; subst ha1
            with_reducible refine wpFac_one rfl (fun w1 hw1 hd => ?_) (fun a1 ha1 => ?_)
            · go_simp
              first | exact rfl | (refine ⟨atD_some ?_, Below.refl _ _⟩; simp)
            simp [Act.put] at ha1; subst ha1
            with_reducible refine wpFac_one rfl (fun w1 hw1 hd => ?_) (fun a1 ha1 => ?_)
            · refine asked rfl ?_
              refine wp_load_row 73 _ rfl (w.heap.size + 1 + 1) rfl 73 (clkC (h)) (0, 0) _ (T2.c.below hw1 T2.c.lt).out Try.underlying73 rfl rfl ?_
              refine ⟨rfl, atD_some ?_, Below.refl _ _⟩
              simp [Act.put]
            simp [Act.put] at ha1; subst ha1
            with_reducible refine wpFac_one rfl (fun w1 hw1 hd => ?_) (fun a1 ha1 => ?_)
            · refine asked rfl ?_
              refine wp_load_row 73 _ rfl (w.heap.size) rfl 73 (clkC (f)) (0, 0) _ (T2.a.below hw1 T2.a.lt).out Try.underlying73 rfl rfl ?_
              refine ⟨rfl, atD_some ?_, Below.refl _ _⟩
              simp [Act.put]
            simp [Act.put] at ha1; subst ha1
            with_reducible refine wpFac_one rfl (fun w1 hw1 hd => ?_) (fun a1 ha1 => ?_)
            · go_simp
              refine (within_is (h) (f) hf _).mono ?_
              rintro e w3 ⟨rfl, hk⟩
              exact ⟨atD_some (by simp), hk⟩
            simp [Act.put] at ha1; subst ha1
            with_reducible refine wpFac_one rfl (fun w1 hw1 hd => ?_) (fun a1 ha1 => ?_)
            · go_simp
              first | exact rfl | (refine ⟨atD_some ?_, Below.refl _ _⟩; simp)
            simp [Act.put] at ha1; subst ha1
            with_reducible refine wpFac_one rfl (fun w1 hw1 hd => ?_) (fun a1 ha1 => ?_)
            · refine asked rfl ?_
              refine wp_load_row 73 _ rfl (w.heap.size + 1 + 1) rfl 73 (clkC (h)) (0, 0) _ (T2.c.below hw1 T2.c.lt).out Try.underlying73 rfl rfl ?_
              refine ⟨rfl, atD_some ?_, Below.refl _ _⟩
              simp [Act.put]
            simp [Act.put] at ha1; subst ha1
            with_reducible refine wpFac_one rfl (fun w1 hw1 hd => ?_) (fun a1 ha1 => ?_)
            · refine asked rfl ?_
              refine wp_load_row 73 _ rfl (w.heap.size + 1) rfl 73 (clkC (g)) (0, 0) _ (T2.b.below hw1 T2.b.lt).out Try.underlying73 rfl rfl ?_
              refine ⟨rfl, atD_some ?_, Below.refl _ _⟩
              simp [Act.put]
            simp [Act.put] at ha1; subst ha1
            with_reducible refine wpFac_one rfl (fun w1 hw1 hd => ?_) (fun a1 ha1 => ?_)
            · go_simp
              refine (within_is (h) (g) hg _).mono ?_
              rintro e w3 ⟨rfl, hk⟩
              exact ⟨atD_some (by simp), hk⟩
            simp [Act.put] at ha1; subst ha1
            with_reducible refine wpFac_one rfl (fun w1 hw1 hd => ?_) (fun a1 ha1 => ?_)
            · go_simp
              first | exact rfl | (refine ⟨atD_some ?_, Below.refl _ _⟩; simp)
            simp [Act.put] at ha1; subst ha1
            with_reducible refine wpFac_one rfl (fun w1 hw1 hd => ?_) (fun a1 ha1 => ?_)
            · refine asked rfl ?_
              refine wp_load_row 73 _ rfl (w.heap.size + 1 + 1) rfl 73 (clkC (h)) (0, 0) _ (T2.c.below hw1 T2.c.lt).out Try.underlying73 rfl rfl ?_
              refine ⟨rfl, atD_some ?_, Below.refl _ _⟩
              simp [Act.put]
            simp [Act.put] at ha1; subst ha1
            with_reducible refine wpFac_one rfl (fun w1 hw1 hd => ?_) (fun a1 ha1 => ?_)
            · refine asked rfl ?_
              refine wp_load_row 73 _ rfl (C) rfl 73 (clkC (cmin f g)) (0, 0) _ (hC2.below hw1 hC2.lt).out Try.underlying73 rfl rfl ?_
              refine ⟨rfl, atD_some ?_, Below.refl _ _⟩
              simp [Act.put]
            simp [Act.put] at ha1; subst ha1
            with_reducible refine wpFac_one rfl (fun w1 hw1 hd => ?_) (fun a1 ha1 => ?_)
            · go_simp
              refine (within_is (h) (cmin f g) hm _).mono ?_
              rintro e w3 ⟨rfl, hk⟩
              exact ⟨atD_some (by simp), hk⟩
            simp [Act.put] at ha1; subst ha1
            with_reducible refine wpFac_one rfl (fun w1 hw1 hd => ?_) (fun a1 ha1 => ?_)
            · go_simp
              first | exact rfl | (refine ⟨atD_some ?_, Below.refl _ _⟩; simp)
            simp [Act.put] at ha1; subst ha1
            with_reducible refine wpFac_one rfl (fun w1 hw1 hd => ?_) (fun a1 ha1 => ?_)
            · go_simp
              first | exact rfl | (refine ⟨atD_some ?_, Below.refl _ _⟩; simp)
            simp [Act.put] at ha1; subst ha1
            refine wpFac_nil ?_
            intro w5 hw5 _
            have T3 := T2.next hw5
            clear hw5 T2 hB2 hC2 jh0 hm0 jh hm
            go_wp2
            go_ret
            exact ⟨rfl, T3.e⟩
          · have jh : cle (cmax f g) h = true := by rw [jh0, fh, gh]; rfl
            have hm : cle h (cmin f g) = true := by rw [hm0, hf, hg]; rfl
            refine wp_region_fac 26 (fun _ => false) [.one (clkV (f)), .one (clkV (h)), .one (.bool true), .one (.bool true), .one (clkV (g)), .one (clkV (h)), .one (.bool true), .one (.bool true), .one (clkV (cmax f g)), .one (clkV (h)), .one (.bool true), .one (.bool true), .one (.bool true), .one (clkV (h)), .one (clkV (f)), .one (.bool true), .one (.bool true), .one (clkV (h)), .one (clkV (g)), .one (.bool true), .one (.bool true), .one (clkV (h)), .one (clkV (cmin f g)), .one (.bool true), .one (.bool true), .one (.bool true)] (by kernel_rfl) (by kernel_rfl) (by kernel_rfl) (by intro F hF; simp at hF) ?goc9
            case goc9 =>
            simp only [List.take_succ_cons, List.take_zero, List.drop_succ_cons, List.drop_zero]
            with_reducible refine wpFac_one rfl (fun w1 hw1 hd => ?_) (fun a1 ha1 => ?_)
            · refine asked rfl ?_
              refine wp_load_row 73 _ rfl (w.heap.size) rfl 73 (clkC (f)) (0, 0) _ (T2.a.below hw1 T2.a.lt).out Try.underlying73 rfl rfl ?_
              refine ⟨rfl, atD_some ?_, Below.refl _ _⟩
              simp [Act.put]
            simp [Act.put] at ha1; subst ha1
            with_reducible refine wpFac_one rfl (fun w1 hw1 hd => ?_) (fun a1 ha1 => ?_)
            · refine asked rfl ?_
              refine wp_load_row 73 _ rfl (w.heap.size + 1 + 1) rfl 73 (clkC (h)) (0, 0) _ (T2.c.below hw1 T2.c.lt).out Try.underlying73 rfl rfl ?_
              refine ⟨rfl, atD_some ?_, Below.refl _ _⟩
              simp [Act.put]
            simp [Act.put] at ha1; subst ha1
            with_reducible refine wpFac_one rfl (fun w1 hw1 hd => ?_) (fun a1 ha1 => ?_)
            · go_simp
              refine (within_is (f) (h) fh _).mono ?_
              rintro e w3 ⟨rfl, hk⟩
              exact ⟨atD_some (by simp), hk⟩
            simp [Act.put] at ha1; subst ha1
            with_reducible refine wpFac_one rfl (fun w1 hw1 hd => ?_) (fun a1 ha1 => ?_)
            · go_simp
              first | exact rfl | (refine ⟨atD_some ?_, Below.refl _ _⟩; simp)
            simp [Act.put] at ha1; subst ha1
            with_reducible refine wpFac_one rfl (fun w1 hw1 hd => ?_) (fun a1 ha1 => ?_)
            · refine asked rfl ?_
              refine wp_load_row 73 _ rfl (w.heap.size + 1) rfl 73 (clkC (g)) (0, 0) _ (T2.b.below hw1 T2.b.lt).out Try.underlying73 rfl rfl ?_
              refine ⟨rfl, atD_some ?_, Below.refl _ _⟩
              simp [Act.put]
            simp [Act.put] at ha1; subst ha1
            with_reducible refine wpFac_one rfl (fun w1 hw1 hd => ?_) (fun a1 ha1 => ?_)
            · refine asked rfl ?_
              refine wp_load_row 73 _ rfl (w.heap.size + 1 + 1) rfl 73 (clkC (h)) (0, 0) _ (T2.c.below hw1 T2.c.lt).out Try.underlying73 rfl rfl ?_
              refine ⟨rfl, atD_some ?_, Below.refl _ _⟩
              simp [Act.put]
            simp [Act.put] at ha1; subst ha1
            with_reducible refine wpFac_one rfl (fun w1 hw1 hd => ?_) (fun a1 ha1 => ?_)
            · go_simp
              refine (within_is (g) (h) gh _).mono ?_
              rintro e w3 ⟨rfl, hk⟩
              exact ⟨atD_some (by simp), hk⟩
            simp [Act.put] at ha1; subst ha1
            with_reducible refine wpFac_one rfl (fun w1 hw1 hd => ?_) (fun a1 ha1 => ?_)
            · go_simp
              first | exact rfl | (refine ⟨atD_some ?_, Below.refl _ _⟩; simp)
            simp [Act.put] at ha1; subst ha1
            with_reducible refine wpFac_one rfl (fun w1 hw1 hd => ?_) (fun a1 ha1 => ?_)
            · refine asked rfl ?_
              refine wp_load_row 73 _ rfl (B) rfl 73 (clkC (cmax f g)) (0, 0) _ (hB2.below hw1 hB2.lt).out Try.underlying73 rfl rfl ?_
              refine ⟨rfl, atD_some ?_, Below.refl _ _⟩
              simp [Act.put]
            simp [Act.put] at ha1; subst ha1
            with_reducible refine wpFac_one rfl (fun w1 hw1 hd => ?_) (fun a1 ha1 => ?_)
            · refine asked rfl ?_
              refine wp_load_row 73 _ rfl (w.heap.size + 1 + 1) rfl 73 (clkC (h)) (0, 0) _ (T2.c.below hw1 T2.c.lt).out Try.underlying73 rfl rfl ?_
              refine ⟨rfl, atD_some ?_, Below.refl _ _⟩
              simp [Act.put]
            simp [Act.put] at ha1; subst ha1
            with_reducible refine wpFac_one rfl (fun w1 hw1 hd => ?_) (fun a1 ha1 => ?_)
            · go_simp
              refine (within_is (cmax f g) (h) jh _).mono ?_
              rintro e w3 ⟨rfl, hk⟩
              exact ⟨atD_some (by simp), hk⟩
            simp [Act.put] at ha1; subst ha1
            with_reducible refine wpFac_one rfl (fun w1 hw1 hd => ?_) (fun a1 ha1 => ?_)
            · go_simp
              first | exact rfl | (refine ⟨atD_some ?_, Below.refl _ _⟩; simp)
            simp [Act.put] at ha1; subst ha1
            with_reducible refine wpFac_one rfl (fun w1 hw1 hd => ?_) (fun a1 ha1 => ?_)
            · go_simp
              first | exact rfl | (refine ⟨atD_some ?_, Below.refl _ _⟩; simp)
            simp [Act.put] at ha1; subst ha1
            with_reducible refine wpFac_one rfl (fun w1 hw1 hd => ?_) (fun a1 ha1 => ?_)
            · refine asked rfl ?_
              refine wp_load_row 73 _ rfl (w.heap.size + 1 + 1) rfl 73 (clkC (h)) (0, 0) _ (T2.c.below hw1 T2.c.lt).out Try.underlying73 rfl rfl ?_
              refine ⟨rfl, atD_some ?_, Below.refl _ _⟩
              simp [Act.put]
            simp [Act.put] at ha1; subst ha1
            with_reducible refine wpFac_one rfl (fun w1 hw1 hd => ?_) (fun a1 ha1 => ?_)
            · refine asked rfl ?_
              refine wp_load_row 73 _ rfl (w.heap.size) rfl 73 (clkC (f)) (0, 0) _ (T2.a.below hw1 T2.a.lt).out Try.underlying73 rfl rfl ?_
              refine ⟨rfl, atD_some ?_, Below.refl _ _⟩
              simp [Act.put]
            simp [Act.put] at ha1; subst ha1
            with_reducible refine wpFac_one rfl (fun w1 hw1 hd => ?_) (fun a1 ha1 => ?_)
            · go_simp
              refine (within_is (h) (f) hf _).mono ?_
              rintro e w3 ⟨rfl, hk⟩
              exact ⟨atD_some (by simp), hk⟩
            simp [Act.put] at ha1; subst ha1
            with_reducible refine wpFac_one rfl (fun w1 hw1 hd => ?_) (fun a1 ha1 => ?_)
            · go_simp
              first | exact rfl | (refine ⟨atD_some ?_, Below.refl _ _⟩; simp)
            simp [Act.put] at ha1; subst ha1
            with_reducible refine wpFac_one rfl (fun w1 hw1 hd => ?_) (fun a1 ha1 => ?_)
            · refine asked rfl ?_
              refine wp_load_row 73 _ rfl (w.heap.size + 1 + 1) rfl 73 (clkC (h)) (0, 0) _ (T2.c.below hw1 T2.c.lt).out Try.underlying73 rfl rfl ?_
              refine ⟨rfl, atD_some ?_, Below.refl _ _⟩
              simp [Act.put]
            simp [Act.put] at ha1; subst ha1
            with_reducible refine wpFac_one rfl (fun w1 hw1 hd => ?_) (fun a1 ha1 => ?_)
            · refine asked rfl ?_
              refine wp_load_row 73 _ rfl (w.heap.size + 1) rfl 73 (clkC (g)) (0, 0) _ (T2.b.below hw1 T2.b.lt).out Try.underlying73 rfl rfl ?_
              refine ⟨rfl, atD_some ?_, Below.refl _ _⟩
              simp [Act.put]
            simp [Act.put] at ha1; subst ha1
            with_reducible refine wpFac_one rfl (fun w1 hw1 hd => ?_) (fun a1 ha1 => ?_)
            · go_simp
              refine (within_is (h) (g) hg _).mono ?_
              rintro e w3 ⟨rfl, hk⟩
              exact ⟨atD_some (by simp), hk⟩
            simp [Act.put] at ha1; subst ha1
            with_reducible refine wpFac_one rfl (fun w1 hw1 hd => ?_) (fun a1 ha1 => ?_)
            · go_simp
              first | exact rfl | (refine ⟨atD_some ?_, Below.refl _ _⟩; simp)
            simp [Act.put] at ha1; subst ha1
            with_reducible refine wpFac_one rfl (fun w1 hw1 hd => ?_) (fun a1 ha1 => ?_)
            · refine asked rfl ?_
              refine wp_load_row 73 _ rfl (w.heap.size + 1 + 1) rfl 73 (clkC (h)) (0, 0) _ (T2.c.below hw1 T2.c.lt).out Try.underlying73 rfl rfl ?_
              refine ⟨rfl, atD_some ?_, Below.refl _ _⟩
              simp [Act.put]
            simp [Act.put] at ha1; subst ha1
            with_reducible refine wpFac_one rfl (fun w1 hw1 hd => ?_) (fun a1 ha1 => ?_)
            · refine asked rfl ?_
              refine wp_load_row 73 _ rfl (C) rfl 73 (clkC (cmin f g)) (0, 0) _ (hC2.below hw1 hC2.lt).out Try.underlying73 rfl rfl ?_
              refine ⟨rfl, atD_some ?_, Below.refl _ _⟩
              simp [Act.put]
            simp [Act.put] at ha1; subst ha1
            with_reducible refine wpFac_one rfl (fun w1 hw1 hd => ?_) (fun a1 ha1 => ?_)
            · go_simp
              refine (within_is (h) (cmin f g) hm _).mono ?_
              rintro e w3 ⟨rfl, hk⟩
              exact ⟨atD_some (by simp), hk⟩
            simp [Act.put] at ha1; subst ha1
            with_reducible refine wpFac_one rfl (fun w1 hw1 hd => ?_) (fun a1 ha1 => ?_)
            · go_simp
              first | exact rfl | (refine ⟨atD_some ?_, Below.refl _ _⟩; simp)
            simp [Act.put] at ha1; subst ha1
            with_reducible refine wpFac_one rfl (fun w1 hw1 hd => ?_) (fun a1 ha1 => ?_)
            · go_simp
              first | exact rfl | (refine ⟨atD_some ?_, Below.refl _ _⟩; simp)
            simp [Act.put] at ha1; subst ha1
            refine wpFac_nil ?_
            intro w5 hw5 _
            have T3 := T2.next hw5
            clear hw5 T2 hB2 hC2 jh0 hm0 jh hm
            go_wp2
            go_ret
            exact ⟨rfl, T3.e⟩
/-! The frame of the law ClockLattice, by program. -/
set_option maxRecDepth 100000 in
theorem clockLattice_lifted (os : Os) (started : os.Started) (H : Type) (enc : TypeId × Value → H) :
    ReturnsInHanded {} Try.checked os 13 .any (Rows.clockLatticeSpec.pre6 enc Try.prog Try.f13 Rows.clockLatticeRow.domain false) (Rows.clockLatticeSpec.post enc Try.prog Try.f13 false true false false) := by
  refine returnsInHanded_of_change_shaped (C := Try.checked) frame_own started (by kernel_rfl) Try.func13
    (ChangeSpec.witness6 (enc := enc) (C := Try.checked) false ⟨#[], #[.agg #[.int .i64 0, .int .i64 0, .int .i64 0, .int .i64 0, .int .i64 0, .int .i64 0], .agg #[.int .i64 0, .int .i64 0, .int .i64 0, .int .i64 0, .int .i64 0, .int .i64 0], .agg #[.int .i64 0, .int .i64 0, .int .i64 0, .int .i64 0, .int .i64 0, .int .i64 0]], []⟩ 8 (by kernel_rfl) (by kernel_rfl) (by kernel_rfl) (by kernel_rfl)) ?_
  intro W base args ds gs before hval0 hW hcnd hsz hshaped hroom
  clear hcnd hshaped
  have hval : ∀ (j : Nat) t v, Try.f13.params[j]? = some t → args[j]? = some v → Value.okWide Try.prog W .any base t v := hval0
  have hW' := hW
  obtain ⟨p, q, hA0, hV, rfl, hfz, hnd⟩ := hW
  have hA : DataW.TrodAll enc Try.prog W 0 (fun _ => true) true Try.f13.params.toList args.toList ds p := hA0
  rw [Try.params13] at hA hval
  obtain ⟨v0, vs0, d0, ds0, p0, q0, hargs, rfl, rfl, h0, r0⟩ := trodAll_cons hA
  obtain ⟨v1, vs1, d1, ds1, p1, q1, rfl, rfl, rfl, h1, r1⟩ := trodAll_cons r0
  obtain ⟨v2, vs2, d2, ds2, p2, q2, rfl, rfl, rfl, h2, r2⟩ := trodAll_cons r1
  obtain ⟨rfl, rfl, rfl⟩ := trodAll_nil r2
  obtain rfl : args = #[v0, v1, v2] := by cases args; simp_all
  obtain ⟨rfl, rfl⟩ := trodVars_none hV
  have k0 := h0
  have lt0 : ∀ x ∈ p0, x.block < W.heap.size := by obtain ⟨m, hm⟩ := k0; exact DataW.trod_lt m _ _ _ hm
  obtain ⟨a0, rfl, w0⟩ := open_clk Try.underlying73 Try.underlying3 clk_cells (by kernel_rfl) (hval 0 73 v0 rfl rfl) h0
  have k1 := h1
  have lt1 : ∀ x ∈ p1, x.block < W.heap.size := by obtain ⟨m, hm⟩ := k1; exact DataW.trod_lt m _ _ _ hm
  obtain ⟨a1, rfl, w1⟩ := open_clk Try.underlying73 Try.underlying3 clk_cells (by kernel_rfl) (hval 1 73 v1 rfl rfl) h1
  have k2 := h2
  have lt2 : ∀ x ∈ p2, x.block < W.heap.size := by obtain ⟨m, hm⟩ := k2; exact DataW.trod_lt m _ _ _ hm
  obtain ⟨a2, rfl, w2⟩ := open_clk Try.underlying73 Try.underlying3 clk_cells (by kernel_rfl) (hval 2 73 v2 rfl rfl) h2
  clear hA0 hval0
  refine (clockLattice_walk a0 a1 a2 W w0 w1 w2).mono fun e W' ⟨he, bel⟩ => ?_
  subst he
  exact ⟨_, rfl, _, _, _, [], _, [], hW', trodAll_mk1 (shut_bool Try.underlying4 _), (trodAll_cons_mk (Below.trod frame_laid (by kernel_rfl) (of_decide_eq_true (by kernel_rfl)) k0 bel lt0) (trodAll_cons_mk (Below.trod frame_laid (by kernel_rfl) (of_decide_eq_true (by kernel_rfl)) k1 bel lt1) (trodAll_cons_mk (Below.trod frame_laid (by kernel_rfl) (of_decide_eq_true (by kernel_rfl)) k2 bel lt2) trodAll_mk0))), rfl, bel.frame _, fun h => by cases h⟩

theorem clockLattice_over : Rows.clockLatticeRow.holds Try.pinned (OpenSpec.ofChange Rows.clockLatticeSpec) :=
  OpenClaim.holds_of_wide 13 Try.f13 rfl rfl rfl rfl rfl rfl rfl ⟨rfl, rfl, rfl, rfl, rfl⟩ rfl rfl rfl rfl rfl (by kernel_rfl) Try.func13 (by kernel_rfl)
    (of_decide_eq_true (by kernel_rfl)) (by unfold Func.isWrapper; first | (rw [if_pos (by decide +kernel)]; kernel_rfl) | (rw [if_neg (by decide +kernel)]; exact ⟨rfl, rfl⟩))
    (fun os started H enc _ => clockLattice_lifted os started H enc)

/-- The statement. -/
theorem clockLattice_holds : Rows.ClockLatticeSaid := clockLattice_over

end Go.Proofs.Ytoohconipcleiaa
