/- Equality of events, of slices of events. -/
import Derived.Test.YtmeidjhojanogaaDoorMD
namespace Go.Proofs.YtmeidjhojanogaaDoor
open Go.RowKit

theorem equalIn_ev (x y : Ev) (w : World) : (Op.equalIn 10000 30 (evV x) (evV y)).run Tryd.prog w = .ok (decide (x = y)) w := by
  obtain ⟨k, t, o⟩ := x
  obtain ⟨k', t', o'⟩ := y
  rw [run_equalIn_agg (P := Tryd.prog) w 9999 _ _ _ (by kernel_rfl) (by kernel_rfl)]
  simp [go_sem]
  by_cases h1 : k = k' <;> by_cases h2 : t = t' <;> by_cases h3 : o = o' <;> simp [h1, h2, h3]
theorem neq_ev (x y : Ev) (w : World) : (binOp .neq 30 (evV x) (evV y)).run Tryd.prog w = .ok (.bool (!decide (x = y))) w := by
  rw [run_neq_struct, equalIn_ev]; rfl
theorem eql_ev (x y : Ev) (w : World) : (binOp .eql 30 (evV x) (evV y)).run Tryd.prog w = .ok (.bool (decide (x = y))) w := by
  rw [run_eql_struct, equalIn_ev]; rfl
set_option maxHeartbeats 2000000 in
theorem eqEv_any (l m : List Ev) (a a' : Option Addr) (c c' : Nat) (w : World) (h : EvS w a l) (h' : EvS w a' m) :
    Calls Tryd.prog 15 #[.slice a l.length c, .slice a' m.length c'] w fun e w' => e = .returned (.bool (eqB l m)) ∧ Below w.heap.size w w' := by
  have hbig := h.big
  have hbig' := h'.big
  by_cases hl : l.length = m.length
  · have hne : ((l.length : Int) != (m.length : Int)) = false := by simp [hl]
    have HL := Lib.hid hl
    have HNE := Lib.hid neq_ev
    clear hl
    go_enter Tryd.func15, Tryd.ntmps15
    go_wp2
    go_loopw [14] (fun i wr => ∃ k : Nat, k ≤ l.length ∧ i = .int .i64 k ∧ Hid (eqB l m = eqB (l.drop k) (m.drop k)) ∧ Below w.heap.size w wr) (fun i _ => l.length - (intOf i).toNat)
    case atStart => exact ⟨0, Nat.zero_le _, rfl, Lib.hid rfl, Below.refl _ _⟩
    case round =>
      obtain ⟨k, hk, rfl, HC, hb⟩ := hrel
      replace h := h.below hb
      replace h' := h'.below hb
      by_cases hlt : k < l.length
      · have hlt' : k < m.length := by rw [← HL.out]; exact hlt
        obtain ⟨b, o, rfl, d0, d1, d2⟩ := h.at hlt
        obtain ⟨b', o', rfl, e0, e1, e2⟩ := h'.at hlt'
        have hd : l.drop k = l[k] :: l.drop (k + 1) := List.drop_eq_getElem_cons hlt
        have hd' : m.drop k = m[k] :: m.drop (k + 1) := List.drop_eq_getElem_cons hlt'
        generalize l[k] = y at *
        generalize m[k] = y' at *
        have hr : eqB l m = (decide (y = y') && eqB (l.drop (k + 1)) (m.drop (k + 1))) := by rw [HC.out, hd, hd']; simp [eqB]
        have HR := Lib.hid hr
        have hb2 := hb.alloc hb.size (.cells (evC y) 30)
        have hN := Has.new wr (evC y) 30
        have n0 : (wr.alloc (.cells (evC y) 30)).cell? ⟨wr.heap.size, 0, none⟩ = some (.int .i64 y.k) := hN.cell rfl
        have n1 : (wr.alloc (.cells (evC y) 30)).cell? ⟨wr.heap.size, 1, none⟩ = some (.int .i64 y.t) := hN.cell rfl
        have n2 : (wr.alloc (.cells (evC y) 30)).cell? ⟨wr.heap.size, 2, none⟩ = some (.int .i64 y.o) := hN.cell rfl
        have hbw := Below.refl wr.heap.size wr
        have hal := hbw.alloc (Nat.le_refl _) (.cells (evC y) 30)
        have lb := World.block_lt_of_cell? wr _ e0
        have g0 := (hal.cell (p := ⟨b', o' + k * 3, none⟩) lb).trans e0
        have g1 := (hal.cell (p := ⟨b', o' + k * 3 + 1, none⟩) lb).trans e1
        have g2 := (hal.cell (p := ⟨b', o' + k * 3 + 2, none⟩) lb).trans e2
        have i0 : (0 : Int) ≤ k := by omega
        have i1 : (k : Int) < m.length := by omega
        clear hr hd hd' HC hbw hal lb
        by_cases hy : y = y'
        · subst hy
          have HR2 := Lib.hid (show eqB l m = eqB (l.drop (k + 1)) (m.drop (k + 1)) by rw [HR.out]; simp)
          have hq : ∀ W, (binOp .neq 30 (evV y) (evV y)).run Tryd.prog W = .ok (.bool false) W := fun W => by rw [HNE.out]; simp
          clear HR
          go_wp2
          go_quiet (fail)
          go_wp2
          go_roundw
          case rel => exact ⟨k + 1, by omega, by go_num, HR2, below_drewN hb2 _⟩
          case measure => simp [intOf]; omega
        · have HR2 := Lib.hid (show eqB l m = false by rw [HR.out]; simp [hy])
          have hq : ∀ W, (binOp .neq 30 (evV y) (evV y')).run Tryd.prog W = .ok (.bool true) W := fun W => by rw [HNE.out]; simp [hy]
          clear HR hy
          go_wp2
          go_quiet (fail)
          go_wp2
          go_ret
          rw [HR2.out]
          exact ⟨rfl, below_drewN hb2 _⟩
      · have hr : eqB l m = true := by rw [HC.out, List.drop_eq_nil_of_le (by omega), List.drop_eq_nil_of_le (by rw [← HL.out]; omega)]; simp [eqB]
        have HR := Lib.hid hr
        clear hr HC
        go_wp2
        go_ret
        rw [HR.out]
        exact ⟨rfl, hb⟩
  · have hne : ((l.length : Int) != (m.length : Int)) = true := by simp; omega
    have hr : eqB l m = false := by simp [eqB]; exact fun e => hl (by rw [e])
    rw [hr]
    clear hr
    go_enter Tryd.func15, Tryd.ntmps15
    go_wp2
    go_ret
    exact ⟨rfl, Below.refl _ _⟩
end Go.Proofs.YtmeidjhojanogaaDoor
