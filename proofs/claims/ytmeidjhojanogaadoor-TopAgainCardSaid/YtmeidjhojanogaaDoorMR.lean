/- Joined texts. -/
import Derived.Test.YtmeidjhojanogaaDoorFrn
import Derived.Test.YtmeidjhojanogaaDoorMD
import Derived.Test.YtmeidjhojanogaaDoorRacA
import Derived.Test.YtmeidjhojanogaaDoorFsH

/- Contracts of the full detector: Run, Last. -/
namespace Go.Proofs.YtmeidjhojanogaaDoor
open Go.RowKit

/-- Flags. -/
def FlagPost (L : List Ev) (w : World) (r : Ending) (w' : World) : Prop := ∃ v, r = .returned (.tuple #[v, .int .i64 0]) ∧ w'.ownsRow w.heap.size 67 3 v L.length (evL L) ∧ Below w.heap.size w w'

set_option maxRecDepth 100000 in
theorem fullRun_err (l : List Ev) (a : Option Addr) (c : Nat) (w : World) (h : EvS w a l) (he : (played l).2.2 ≠ 0) :
    Calls Tryd.prog 33 #[.slice a l.length c] w fun r w' => r = .returned (.tuple #[.slice none 0 0, .int .i64 (played l).2.2]) ∧ Below w.heap.size w w' := by
  have e2 : ((played l).2.2 != 0) = true := by simpa using he
  go_enter Tryd.func33, Tryd.ntmps33
  go_wp2_with fail
  refine (check_any l a c _ h).mono ?_
  rintro r w1 ⟨rfl, hb⟩
  go_wp2
  go_ret2
  exact ⟨rfl, hb⟩
set_option maxRecDepth 100000 in
theorem fullRun_ok (l : List Ev) (a : Option Addr) (c : Nat) (w : World) (h : EvS w a l) (he : (played l).2.2 = 0) :
    Calls Tryd.prog 33 #[.slice a l.length c] w (FlagPost (fFlags l l.length) w) := by
  have e2 : ((played l).2.2 != 0) = false := by simpa using he
  have hzv := vars_zero
  go_enter Tryd.func33, Tryd.ntmps33
  go_wp2_with fail
  refine (check_any l a c _ h).mono ?_
  rintro r w1 ⟨rfl, hb⟩
  replace h := h.below hb
  go_wp2_with fail
  refine (frun_ok l a c _ h he).mono ?_
  rintro r w2 ⟨v, rfl, hown, hk⟩
  have hb2 := hb.trans (hk.mono hb.size)
  have hN := Has.new w2 (vrC (fun _ _ => 0) fun _ _ => 0) 98
  have hn := hown.alloc (.cells (vrC (fun _ _ => 0) fun _ _ => 0) 98)
  have hb3 := hb2.alloc hb2.size (.cells (vrC (fun _ _ => 0) fun _ _ => 0) 98)
  go_wp2_with (first | (refine wpList_store_mid rfl _ _ _ rfl _ 0 (vrC (rdAt l l.length) (wrAt l l.length)) rfl rfl ?_ ?_ (rowI_one _ _) ?_) | go_in)
  · have := hN.thereW
    rw [rowI_size] at this ⊢
    exact this
  · rw [rowI_size]; exact vars_size
  have hbW : Below w2.heap.size w2 ((w2.alloc (.cells (vrC (fun _ _ => 0) fun _ _ => 0) 98)).setCells w2.heap.size 0 (vrC (rdAt l l.length) (wrAt l l.length)).toList) := Below.setCells' ((Below.refl _ _).alloc (Nat.le_refl _) _) (Nat.le_refl _) _ _
  go_ret2
  exact ⟨v, rfl, own_low (own_below hown hbW) hb.size, hb2.trans (hbW.mono hb2.size)⟩

theorem Has.set6 {w : World} {b : Nat} {f : Nat → Int} {T : TypeId} (h : Has w b (clkC f) T) (g : Nat → Int) : Has ((((((w.setCell ⟨b, 0, none⟩ (.int .i64 (g 0))).setCell ⟨b, 1, none⟩ (.int .i64 (g 1))).setCell ⟨b, 2, none⟩ (.int .i64 (g 2))).setCell ⟨b, 3, none⟩ (.int .i64 (g 3))).setCell ⟨b, 4, none⟩ (.int .i64 (g 4))).setCell ⟨b, 5, none⟩ (.int .i64 (g 5))) b (clkC g) T :=
  ((((((h.setCell 0 _).setCell 1 _).setCell 2 _).setCell 3 _).setCell 4 _).setCell 5 _).to (by simp [clkC])
theorem Has.set6_ne {w : World} {b b' : Nat} {cs : Array Value} {T : TypeId} (h : Has w b cs T) (hb : b ≠ b') (g : Nat → Int) : Has ((((((w.setCell ⟨b', 0, none⟩ (.int .i64 (g 0))).setCell ⟨b', 1, none⟩ (.int .i64 (g 1))).setCell ⟨b', 2, none⟩ (.int .i64 (g 2))).setCell ⟨b', 3, none⟩ (.int .i64 (g 3))).setCell ⟨b', 4, none⟩ (.int .i64 (g 4))).setCell ⟨b', 5, none⟩ (.int .i64 (g 5))) b cs T :=
  (((((h.setCell_ne hb _).setCell_ne hb _).setCell_ne hb _).setCell_ne hb _).setCell_ne hb _).setCell_ne hb _
theorem below_set6 {w w' : World} {b N : Nat} (h : Below N w w') (hb : N ≤ b) (g : Nat → Int) : Below N w ((((((w'.setCell ⟨b, 0, none⟩ (.int .i64 (g 0))).setCell ⟨b, 1, none⟩ (.int .i64 (g 1))).setCell ⟨b, 2, none⟩ (.int .i64 (g 2))).setCell ⟨b, 3, none⟩ (.int .i64 (g 3))).setCell ⟨b, 4, none⟩ (.int .i64 (g 4))).setCell ⟨b, 5, none⟩ (.int .i64 (g 5))) :=
  (((((h.setCell hb _).setCell hb _).setCell hb _).setCell hb _).setCell hb _).setCell hb _
theorem end_two {P : Program} {fn : Func} {R : Ending → World → Prop} {e : Exit} {a : Act} {W w : World} {A B N : Nat} {f g : Nat → Int} (h1 : Has W A (clkC f) 95) (h2 : Has W B (clkC g) 95) (hb : Below N w W)
    (h : ∀ W, Has W A (clkC f) 95 → Has W B (clkC g) 95 → Below N w W → bodyPost P fn R e a W) : bodyPost P fn R e a W := h W h1 h2 hb

end Go.Proofs.YtmeidjhojanogaaDoor

/- Equality of flags, of slices of flags. -/
namespace Go.Proofs.YtmeidjhojanogaaDoor
open Go.RowKit

theorem equalIn_fl (x y : Ev) (w : World) : (Op.equalIn 10000 67 (evV x) (evV y)).run Tryd.prog w = .ok (decide (x = y)) w := by
  obtain ⟨k, t, o⟩ := x
  obtain ⟨k', t', o'⟩ := y
  rw [run_equalIn_agg (P := Tryd.prog) w 9999 _ _ _ (by kernel_rfl) (by kernel_rfl)]
  simp [go_sem]
  by_cases h1 : k = k' <;> by_cases h2 : t = t' <;> by_cases h3 : o = o' <;> simp [h1, h2, h3]
theorem neq_fl (x y : Ev) (w : World) : (binOp .neq 67 (evV x) (evV y)).run Tryd.prog w = .ok (.bool (!decide (x = y))) w := by
  rw [run_neq_struct, equalIn_fl]; rfl
theorem eql_fl (x y : Ev) (w : World) : (binOp .eql 67 (evV x) (evV y)).run Tryd.prog w = .ok (.bool (decide (x = y))) w := by
  rw [run_eql_struct, equalIn_fl]; rfl
set_option maxHeartbeats 2000000 in
theorem eqFl_any (l m : List Ev) (a a' : Option Addr) (c c' : Nat) (w : World) (h : EvS w a l) (h' : EvS w a' m) :
    Calls Tryd.prog 34 #[.slice a l.length c, .slice a' m.length c'] w fun e w' => e = .returned (.bool (eqB l m)) ∧ Below w.heap.size w w' := by
  have hbig := h.big
  have hbig' := h'.big
  by_cases hl : l.length = m.length
  · have hne : ((l.length : Int) != (m.length : Int)) = false := by simp [hl]
    have HL := Lib.hid hl
    have HNE := Lib.hid neq_fl
    clear hl
    go_enter Tryd.func34, Tryd.ntmps34
    go_wp2
    go_loopw [14] (fun i wr => ∃ k : Nat, k ≤ l.length ∧ i = .int .i64 k ∧ Hid (eqB l m = eqB (l.drop k) (m.drop k)) ∧ Below w.heap.size w wr) (fun i _ => l.length - (intOf i).toNat)
    case atStart => exact ⟨0, Nat.zero_le _, rfl, Lib.hid rfl, Below.refl _ _⟩
    case round =>
      obtain ⟨k, hk, rfl, HC, hb⟩ := hrel
      replace h := h.below hb
      replace h' := h'.below hb
      by_cases hlt : k < l.length
      · have hlt' : k < m.length := by rw [← HL.out]; exact hlt
        obtain ⟨b, o, rfl, d0, d1, d2⟩ := h.at hlt
        obtain ⟨b', o', rfl, e0, e1, e2⟩ := h'.at hlt'
        have hd : l.drop k = l[k] :: l.drop (k + 1) := List.drop_eq_getElem_cons hlt
        have hd' : m.drop k = m[k] :: m.drop (k + 1) := List.drop_eq_getElem_cons hlt'
        generalize l[k] = y at *
        generalize m[k] = y' at *
        have hr : eqB l m = (decide (y = y') && eqB (l.drop (k + 1)) (m.drop (k + 1))) := by rw [HC.out, hd, hd']; simp [eqB]
        have HR := Lib.hid hr
        have hb2 := hb.alloc hb.size (.cells (evC y) 67)
        have hN := Has.new wr (evC y) 67
        have n0 : (wr.alloc (.cells (evC y) 67)).cell? ⟨wr.heap.size, 0, none⟩ = some (.int .i64 y.k) := hN.cell rfl
        have n1 : (wr.alloc (.cells (evC y) 67)).cell? ⟨wr.heap.size, 1, none⟩ = some (.int .i64 y.t) := hN.cell rfl
        have n2 : (wr.alloc (.cells (evC y) 67)).cell? ⟨wr.heap.size, 2, none⟩ = some (.int .i64 y.o) := hN.cell rfl
        have hbw := Below.refl wr.heap.size wr
        have hal := hbw.alloc (Nat.le_refl _) (.cells (evC y) 67)
        have lb := World.block_lt_of_cell? wr _ e0
        have g0 := (hal.cell (p := ⟨b', o' + k * 3, none⟩) lb).trans e0
        have g1 := (hal.cell (p := ⟨b', o' + k * 3 + 1, none⟩) lb).trans e1
        have g2 := (hal.cell (p := ⟨b', o' + k * 3 + 2, none⟩) lb).trans e2
        have i0 : (0 : Int) ≤ k := by omega
        have i1 : (k : Int) < m.length := by omega
        clear hr hd hd' HC hbw hal lb
        by_cases hy : y = y'
        · subst hy
          have HR2 := Lib.hid (show eqB l m = eqB (l.drop (k + 1)) (m.drop (k + 1)) by rw [HR.out]; simp)
          have hq : ∀ W, (binOp .neq 67 (evV y) (evV y)).run Tryd.prog W = .ok (.bool false) W := fun W => by rw [HNE.out]; simp
          clear HR
          go_wp2
          go_quiet (fail)
          go_wp2
          go_roundw
          case rel => exact ⟨k + 1, by omega, by go_num, HR2, below_drewN hb2 _⟩
          case measure => simp [intOf]; omega
        · have HR2 := Lib.hid (show eqB l m = false by rw [HR.out]; simp [hy])
          have hq : ∀ W, (binOp .neq 67 (evV y) (evV y')).run Tryd.prog W = .ok (.bool true) W := fun W => by rw [HNE.out]; simp [hy]
          clear HR hy
          go_wp2
          go_quiet (fail)
          go_wp2
          go_ret
          rw [HR2.out]
          exact ⟨rfl, below_drewN hb2 _⟩
      · have hr : eqB l m = true := by rw [HC.out, List.drop_eq_nil_of_le (by omega), List.drop_eq_nil_of_le (by rw [← HL.out]; omega)]; simp [eqB]
        have HR := Lib.hid hr
        clear hr HC
        go_wp2
        go_ret
        rw [HR.out]
        exact ⟨rfl, hb⟩
  · have hne : ((l.length : Int) != (m.length : Int)) = true := by simp; omega
    have hr : eqB l m = false := by simp [eqB]; exact fun e => hl (by rw [e])
    rw [hr]
    clear hr
    go_enter Tryd.func34, Tryd.ntmps34
    go_wp2
    go_ret
    exact ⟨rfl, Below.refl _ _⟩
end Go.Proofs.YtmeidjhojanogaaDoor

/- The closed fact 'detected'. -/
namespace Go.Proofs.YtmeidjhojanogaaDoor
open Go.RowKit

theorem evS_own_cap {w : World} {base : Nat} {e : TypeId} {v : Value} {l : List Ev} (h : w.ownsRow base e 3 v l.length (evL l)) (hb : l.length < 4611686018427387904) : ∃ a c, v = .slice a l.length c ∧ EvS w a l ∧ l.length ≤ c := by
  obtain ⟨a, c, hv, hS, _⟩ := evS_own h hb
  refine ⟨a, c, hv, hS, ?_⟩
  rcases h.2 with ⟨h1, hn⟩ | ⟨g, cap, cur, h1, _, _, hcap, _⟩
  · omega
  · rw [hv] at h1
    cases h1
    exact hcap
theorem fl_two : fFlags twoL 3 = [⟨2, 0, 1⟩] := by decide +kernel
end Go.Proofs.YtmeidjhojanogaaDoor

/- Contracts of the fast detector: Run, Slow; the closed fact 'fasted'. -/
namespace Go.Proofs.YtmeidjhojanogaaDoor
open Go.RowKit

set_option maxRecDepth 100000 in
theorem fastRun_err (l : List Ev) (a : Option Addr) (c : Nat) (w : World) (h : EvS w a l) (he : (played l).2.2 ≠ 0) :
    Calls Tryd.prog 32 #[.slice a l.length c] w fun r w' => r = .returned (.tuple #[.slice none 0 0, .int .i64 (played l).2.2]) ∧ Below w.heap.size w w' := by
  go_enter Tryd.func32, Tryd.ntmps32
  go_wp2_with fail
  refine (qrun_err l a c _ h he).mono ?_
  rintro r w1 ⟨rfl, hb⟩
  go_wp2
  go_ret2
  exact ⟨rfl, hb⟩
set_option maxRecDepth 100000 in
theorem fastRun_ok (l : List Ev) (a : Option Addr) (c : Nat) (w : World) (h : EvS w a l) (he : (played l).2.2 = 0) :
    Calls Tryd.prog 32 #[.slice a l.length c] w (FlagPost (qFlags l l.length) w) := by
  go_enter Tryd.func32, Tryd.ntmps32
  go_wp2_with fail
  refine (qrun_ok l a c _ h he).mono ?_
  rintro r w1 ⟨v, rfl, hown, hb⟩
  go_wp2
  go_ret2
  exact ⟨v, rfl, hown, hb⟩
theorem ql_two : qFlags twoL 3 = [⟨2, 0, 1⟩] := by decide +kernel
end Go.Proofs.YtmeidjhojanogaaDoor

/- The closed fact 'works': two writes side by side race, and both detectors say so. -/
namespace Go.Proofs.YtmeidjhojanogaaDoor
open Go.RowKit

/-- The trace of the closed fact. -/
def wrkL : List Ev := [⟨5, 0, 1⟩, ⟨2, 0, 0⟩, ⟨2, 1, 0⟩]
set_option maxRecDepth 100000 in
set_option maxHeartbeats 2000000 in
theorem works_any (w : World) : Calls Tryd.prog 17 #[] w fun r w' => r = .returned (.bool true) ∧ Below w.heap.size w w' := by
  have hT := Has.new w (evL wrkL).toArray 30
  have hb := (Below.refl w.heap.size w).alloc (Nat.le_refl _) (.cells (evL wrkL).toArray 30)
  have hS := evS_full (l := wrkL) hT rfl (by decide)
  go_enter Tryd.func17, Tryd.ntmps17
  go_wp2_with fail
  have hck := fastRun_ok wrkL (some ⟨w.heap.size, 0, none⟩) 3 _ hS (by decide +kernel)
  rw [show wrkL.length = 3 from rfl, show qFlags wrkL 3 = [⟨2, 0, 1⟩] by decide +kernel] at hck
  refine hck.mono ?_
  clear hck
  rintro r w2 ⟨v, rfl, hown, hk⟩
  have hb2 := hb.trans (hk.mono hb.size)
  have hS2 := hS.below hk
  obtain ⟨a, c, rfl, hP⟩ : ∃ a c, v = .slice a 1 c ∧ EvS w2 a [⟨2, 0, 1⟩] := by
    obtain ⟨a, c, h1, h2, _⟩ := evS_own hown (by decide)
    exact ⟨a, c, h1, h2⟩
  clear hk hb hown hS hT
  go_wp2_with fail
  have hck := fullRun_ok wrkL (some ⟨w.heap.size, 0, none⟩) 3 _ hS2 (by decide +kernel)
  rw [show wrkL.length = 3 from rfl, show fFlags wrkL 3 = [⟨2, 0, 1⟩] by decide +kernel] at hck
  refine hck.mono ?_
  clear hck
  rintro r w3 ⟨v, rfl, hown, hk⟩
  have hb3 := hb2.trans (hk.mono hb2.size)
  have hP3 := hP.below hk
  obtain ⟨a', c', rfl, hP'⟩ : ∃ a c, v = .slice a 1 c ∧ EvS w3 a [⟨2, 0, 1⟩] := by
    obtain ⟨a, c, h1, h2, _⟩ := evS_own hown (by decide)
    exact ⟨a, c, h1, h2⟩
  clear hk hb2 hown hS2 hP
  have hck := eqFl_any [⟨2, 0, 1⟩] [⟨2, 0, 1⟩] a a' c c' w3 hP3 hP'
  rw [show ([⟨2, 0, 1⟩] : List Ev).length = 1 from rfl, show eqB ([⟨2, 0, 1⟩] : List Ev) [⟨2, 0, 1⟩] = true by decide] at hck
  have HCK := Lib.hid hck
  clear hck
  go_wp2_with fail
  refine HCK.out.mono ?_
  rintro r w4 ⟨rfl, hk⟩
  have hb4 := hb3.trans (hk.mono hb3.size)
  obtain ⟨b, o, rfl, d0, _, _⟩ := (hP3.below hk).at (i := 0) (by decide)
  have d1 : w4.cell? ⟨b, o, none⟩ = some (.int .i64 2) := by simpa using d0
  clear d0
  go_wp2
  go_ret
  exact ⟨rfl, hb4⟩
end Go.Proofs.YtmeidjhojanogaaDoor
