/- Contracts of the full detector: Run, Last. -/
import Derived.Test.YtdhbgbneadcmiaaFrn
namespace Go.Proofs.Ytdhbgbneadcmiaa
open Go.RowKit

/-- Flags. -/
def FlagPost (L : List Ev) (w : World) (r : Ending) (w' : World) : Prop := ∃ v, r = .returned (.tuple #[v, .int .i64 0]) ∧ w'.ownsRow w.heap.size 51 3 v L.length (evL L) ∧ Below w.heap.size w w'

set_option maxRecDepth 100000 in
theorem fullRun_err (l : List Ev) (a : Option Addr) (c : Nat) (w : World) (h : EvS w a l) (he : (played l).2.2 ≠ 0) :
    Calls Try.prog 24 #[.slice a l.length c] w fun r w' => r = .returned (.tuple #[.slice none 0 0, .int .i64 (played l).2.2]) ∧ Below w.heap.size w w' := by
  have e2 : ((played l).2.2 != 0) = true := by simpa using he
  go_enter Try.func24, Try.ntmps24
  go_wp2_with fail
  refine (check_any l a c _ h).mono ?_
  rintro r w1 ⟨rfl, hb⟩
  go_wp2
  go_ret2
  exact ⟨rfl, hb⟩
set_option maxRecDepth 100000 in
theorem fullRun_ok (l : List Ev) (a : Option Addr) (c : Nat) (w : World) (h : EvS w a l) (he : (played l).2.2 = 0) :
    Calls Try.prog 24 #[.slice a l.length c] w (FlagPost (fFlags l l.length) w) := by
  have e2 : ((played l).2.2 != 0) = false := by simpa using he
  have hzv := vars_zero
  go_enter Try.func24, Try.ntmps24
  go_wp2_with fail
  refine (check_any l a c _ h).mono ?_
  rintro r w1 ⟨rfl, hb⟩
  replace h := h.below hb
  go_wp2_with fail
  refine (frun_ok l a c _ h he).mono ?_
  rintro r w2 ⟨v, rfl, hown, hk⟩
  have hb2 := hb.trans (hk.mono hb.size)
  have hN := Has.new w2 (vrC (fun _ _ => 0) fun _ _ => 0) 76
  have hn := hown.alloc (.cells (vrC (fun _ _ => 0) fun _ _ => 0) 76)
  have hb3 := hb2.alloc hb2.size (.cells (vrC (fun _ _ => 0) fun _ _ => 0) 76)
  go_wp2_with (first | (refine wpList_store_mid rfl _ _ _ rfl _ 0 (vrC (rdAt l l.length) (wrAt l l.length)) rfl rfl ?_ ?_ (rowI_one _ _) ?_) | go_in)
  · have := hN.thereW
    rw [rowI_size] at this ⊢
    exact this
  · rw [rowI_size]; exact vars_size
  have hbW : Below w2.heap.size w2 ((w2.alloc (.cells (vrC (fun _ _ => 0) fun _ _ => 0) 76)).setCells w2.heap.size 0 (vrC (rdAt l l.length) (wrAt l l.length)).toList) := Below.setCells' ((Below.refl _ _).alloc (Nat.le_refl _) _) (Nat.le_refl _) _ _
  go_ret2
  exact ⟨v, rfl, own_low (own_below hown hbW) hb.size, hb2.trans (hbW.mono hb2.size)⟩

theorem Has.set6 {w : World} {b : Nat} {f : Nat → Int} {T : TypeId} (h : Has w b (clkC f) T) (g : Nat → Int) : Has ((((((w.setCell ⟨b, 0, none⟩ (.int .i64 (g 0))).setCell ⟨b, 1, none⟩ (.int .i64 (g 1))).setCell ⟨b, 2, none⟩ (.int .i64 (g 2))).setCell ⟨b, 3, none⟩ (.int .i64 (g 3))).setCell ⟨b, 4, none⟩ (.int .i64 (g 4))).setCell ⟨b, 5, none⟩ (.int .i64 (g 5))) b (clkC g) T :=
  ((((((h.setCell 0 _).setCell 1 _).setCell 2 _).setCell 3 _).setCell 4 _).setCell 5 _).to (by simp [clkC])
theorem Has.set6_ne {w : World} {b b' : Nat} {cs : Array Value} {T : TypeId} (h : Has w b cs T) (hb : b ≠ b') (g : Nat → Int) : Has ((((((w.setCell ⟨b', 0, none⟩ (.int .i64 (g 0))).setCell ⟨b', 1, none⟩ (.int .i64 (g 1))).setCell ⟨b', 2, none⟩ (.int .i64 (g 2))).setCell ⟨b', 3, none⟩ (.int .i64 (g 3))).setCell ⟨b', 4, none⟩ (.int .i64 (g 4))).setCell ⟨b', 5, none⟩ (.int .i64 (g 5))) b cs T :=
  (((((h.setCell_ne hb _).setCell_ne hb _).setCell_ne hb _).setCell_ne hb _).setCell_ne hb _).setCell_ne hb _
theorem below_set6 {w w' : World} {b N : Nat} (h : Below N w w') (hb : N ≤ b) (g : Nat → Int) : Below N w ((((((w'.setCell ⟨b, 0, none⟩ (.int .i64 (g 0))).setCell ⟨b, 1, none⟩ (.int .i64 (g 1))).setCell ⟨b, 2, none⟩ (.int .i64 (g 2))).setCell ⟨b, 3, none⟩ (.int .i64 (g 3))).setCell ⟨b, 4, none⟩ (.int .i64 (g 4))).setCell ⟨b, 5, none⟩ (.int .i64 (g 5))) :=
  (((((h.setCell hb _).setCell hb _).setCell hb _).setCell hb _).setCell hb _).setCell hb _
theorem end_two {P : Program} {fn : Func} {R : Ending → World → Prop} {e : Exit} {a : Act} {W w : World} {A B N : Nat} {f g : Nat → Int} (h1 : Has W A (clkC f) 73) (h2 : Has W B (clkC g) 73) (hb : Below N w W)
    (h : ∀ W, Has W A (clkC f) 73 → Has W B (clkC g) 73 → Below N w W → bodyPost P fn R e a W) : bodyPost P fn R e a W := h W h1 h2 hb

end Go.Proofs.Ytdhbgbneadcmiaa
