/- Contracts of the full detector: Run, Last. -/
import Derived.Test.YtgliichceildgaaFrn
namespace Go.Proofs.Ytgliichceildgaa
open Go.RowKit

/-- Flags. -/
def FlagPost (L : List Ev) (w : World) (r : Ending) (w' : World) : Prop := ∃ v, r = .returned (.tuple #[v, .int .i64 0]) ∧ w'.ownsRow w.heap.size 46 3 v L.length (evL L) ∧ Below w.heap.size w w'

set_option maxRecDepth 100000 in
theorem fullRun_err (l : List Ev) (a : Option Addr) (c : Nat) (w : World) (h : EvS w a l) (he : (played l).2.2 ≠ 0) :
    Calls Try.prog 23 #[.slice a l.length c] w fun r w' => r = .returned (.tuple #[.slice none 0 0, .int .i64 (played l).2.2]) ∧ Below w.heap.size w w' := by
  have e2 : ((played l).2.2 != 0) = true := by simpa using he
  go_enter Try.func23, Try.ntmps23
  go_wp2_with fail
  refine (check_any l a c _ h).mono ?_
  rintro r w1 ⟨rfl, hb⟩
  go_wp2
  go_ret2
  exact ⟨rfl, hb⟩
set_option maxRecDepth 100000 in
theorem fullRun_ok (l : List Ev) (a : Option Addr) (c : Nat) (w : World) (h : EvS w a l) (he : (played l).2.2 = 0) :
    Calls Try.prog 23 #[.slice a l.length c] w (FlagPost (fFlags l l.length) w) := by
  have e2 : ((played l).2.2 != 0) = false := by simpa using he
  have hzv := vars_zero
  go_enter Try.func23, Try.ntmps23
  go_wp2_with fail
  refine (check_any l a c _ h).mono ?_
  rintro r w1 ⟨rfl, hb⟩
  replace h := h.below hb
  go_wp2_with fail
  refine (frun_ok l a c _ h he).mono ?_
  rintro r w2 ⟨v, rfl, hown, hk⟩
  have hb2 := hb.trans (hk.mono hb.size)
  have hN := Has.new w2 (vrC (fun _ _ => 0) fun _ _ => 0) 69
  have hn := hown.alloc (.cells (vrC (fun _ _ => 0) fun _ _ => 0) 69)
  have hb3 := hb2.alloc hb2.size (.cells (vrC (fun _ _ => 0) fun _ _ => 0) 69)
  go_wp2_with (first | (refine wpList_store_mid rfl _ _ _ rfl _ 0 (vrC (rdAt l l.length) (wrAt l l.length)) rfl rfl ?_ ?_ (rowI_one _ _) ?_) | go_in)
  · have := hN.thereW
    rw [rowI_size] at this ⊢
    exact this
  · rw [rowI_size]; exact vars_size
  have hbW : Below w2.heap.size w2 ((w2.alloc (.cells (vrC (fun _ _ => 0) fun _ _ => 0) 69)).setCells w2.heap.size 0 (vrC (rdAt l l.length) (wrAt l l.length)).toList) := Below.setCells' ((Below.refl _ _).alloc (Nat.le_refl _) _) (Nat.le_refl _) _ _
  go_ret2
  exact ⟨v, rfl, own_low (own_below hown hbW) hb.size, hb2.trans (hbW.mono hb2.size)⟩

theorem Has.set6 {w : World} {b : Nat} {f : Nat → Int} {T : TypeId} (h : Has w b (clkC f) T) (g : Nat → Int) : Has ((((((w.setCell ⟨b, 0, none⟩ (.int .i64 (g 0))).setCell ⟨b, 1, none⟩ (.int .i64 (g 1))).setCell ⟨b, 2, none⟩ (.int .i64 (g 2))).setCell ⟨b, 3, none⟩ (.int .i64 (g 3))).setCell ⟨b, 4, none⟩ (.int .i64 (g 4))).setCell ⟨b, 5, none⟩ (.int .i64 (g 5))) b (clkC g) T :=
  ((((((h.setCell 0 _).setCell 1 _).setCell 2 _).setCell 3 _).setCell 4 _).setCell 5 _).to (by simp [clkC])
theorem Has.set6_ne {w : World} {b b' : Nat} {cs : Array Value} {T : TypeId} (h : Has w b cs T) (hb : b ≠ b') (g : Nat → Int) : Has ((((((w.setCell ⟨b', 0, none⟩ (.int .i64 (g 0))).setCell ⟨b', 1, none⟩ (.int .i64 (g 1))).setCell ⟨b', 2, none⟩ (.int .i64 (g 2))).setCell ⟨b', 3, none⟩ (.int .i64 (g 3))).setCell ⟨b', 4, none⟩ (.int .i64 (g 4))).setCell ⟨b', 5, none⟩ (.int .i64 (g 5))) b cs T :=
  (((((h.setCell_ne hb _).setCell_ne hb _).setCell_ne hb _).setCell_ne hb _).setCell_ne hb _).setCell_ne hb _
theorem below_set6 {w w' : World} {b N : Nat} (h : Below N w w') (hb : N ≤ b) (g : Nat → Int) : Below N w ((((((w'.setCell ⟨b, 0, none⟩ (.int .i64 (g 0))).setCell ⟨b, 1, none⟩ (.int .i64 (g 1))).setCell ⟨b, 2, none⟩ (.int .i64 (g 2))).setCell ⟨b, 3, none⟩ (.int .i64 (g 3))).setCell ⟨b, 4, none⟩ (.int .i64 (g 4))).setCell ⟨b, 5, none⟩ (.int .i64 (g 5))) :=
  (((((h.setCell hb _).setCell hb _).setCell hb _).setCell hb _).setCell hb _).setCell hb _
theorem end_two {P : Program} {fn : Func} {R : Ending → World → Prop} {e : Exit} {a : Act} {W w : World} {A B N : Nat} {f g : Nat → Int} (h1 : Has W A (clkC f) 49) (h2 : Has W B (clkC g) 49) (hb : Below N w W)
    (h : ∀ W, Has W A (clkC f) 49 → Has W B (clkC g) 49 → Below N w W → bodyPost P fn R e a W) : bodyPost P fn R e a W := h W h1 h2 hb

set_option maxRecDepth 100000 in
theorem last_err (l : List Ev) (a : Option Addr) (c : Nat) (x : Int) (w : World) (h : EvS w a l) (he : (played l).2.2 ≠ 0) :
    Calls Try.prog 25 #[.slice a l.length c, .int .i64 x] w fun r w' => r = .returned (.tuple #[clkV fun _ => 0, clkV fun _ => 0, .int .i64 (played l).2.2]) ∧ Below w.heap.size w w' := by
  have e2 : ((played l).2.2 != 0) = true := by simpa using he
  have hA := (Has.new w (clkC fun _ => 0) 49).alloc (.cells (clkC fun _ => 0) 49)
  have hB := (Has.new (w.alloc (.cells (clkC fun _ => 0) 49)) (clkC fun _ => 0) 49).at (c := w.heap.size + 1) (by simp)
  have hb0 := ((Below.refl w.heap.size w).alloc (Nat.le_refl _) (.cells (clkC fun _ => 0) 49)).alloc (by simp) (.cells (clkC fun _ => 0) 49)
  replace h := h.below (((Below.refl w.heap.size w).alloc (Nat.le_refl _) (.cells (clkC fun _ => 0) 49)).alloc (by simp) (.cells (clkC fun _ => 0) 49))
  go_enter Try.func25, Try.ntmps25
  go_wp2_with fail
  refine (check_any l a c _ h).mono ?_
  rintro r w1 ⟨rfl, hb⟩
  replace hA := hA.below hb hA.lt
  replace hB := hB.below hb hB.lt
  replace hb := hb0.trans (hb.mono hb0.size)
  obtain ⟨a0, a1, a2, a3, a4, a5⟩ := hA.clk
  obtain ⟨b0, b1, b2, b3, b4, b5⟩ := hB.clk
  obtain ⟨c0, c1, c2, c3, c4, c5⟩ := hA.clkFree
  obtain ⟨d0, d1, d2, d3, d4, d5⟩ := hB.clkFree
  go_wp2_with fail
  clear a0 a1 a2 a3 a4 a5 b0 b1 b2 b3 b4 b5 c0 c1 c2 c3 c4 c5 d0 d1 d2 d3 d4 d5
  refine end_two (w := w) (N := w.heap.size) (A := w.heap.size) (B := w.heap.size + 1) (f := (fun _ => 0)) (g := (fun _ => 0)) ?_ ?_ ?_ ?_
  · first | exact (hA.set6 (fun _ => 0)).set6_ne (by omega) (fun _ => 0) | exact (hA.set6_ne (by omega) (fun _ => 0)).set6 (fun _ => 0)
  · first | exact (hB.set6_ne (by omega) (fun _ => 0)).set6 (fun _ => 0) | exact (hB.set6 (fun _ => 0)).set6_ne (by omega) (fun _ => 0)
  · first | exact below_set6 (below_set6 hb (Nat.le_refl _) (fun _ => 0)) (by omega) (fun _ => 0) | exact below_set6 (below_set6 hb (by omega) (fun _ => 0)) (Nat.le_refl _) (fun _ => 0)
  intro W jA jB jb
  obtain ⟨a0, a1, a2, a3, a4, a5⟩ := jA.clk
  obtain ⟨b0, b1, b2, b3, b4, b5⟩ := jB.clk
  exact bodyPost_ret (v := .tuple #[clkV fun _ => 0, clkV fun _ => 0, .int .i64 (played l).2.2]) (by simp [results, Try.results25, go_sem, a0, a1, a2, a3, a4, a5, b0, b1, b2, b3, b4, b5]) rfl ⟨rfl, jb⟩

end Go.Proofs.Ytgliichceildgaa
