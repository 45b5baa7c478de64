/- Contracts of slices.Equal at events, of swap.Least, of swap.Same; what several swaps do to the least trace, plain. -/
import Derived.Test.YthfeakfakjecoaaLed
import Derived.Test.YthfeakfakjecoaaEqE
namespace Go.Proofs.Ythfeakfakjecoaa
open Go.RowKit

theorem least_ok {l : List Ev} (h : (played l).2.2 = 0) : (played (leastL l)).2.2 = 0 := (to_least _ l rfl).ok h
/-- The fault of Same, its answer. -/
def sameE (a b : List Ev) : Int := if (played a).2.2 = 0 then (played b).2.2 else (played a).2.2
def sameB (a b : List Ev) : Bool := (sameE a b == 0) && eqB (leastL a) (leastL b)
theorem sameE_zero {a b : List Ev} : sameE a b = 0 ↔ (played a).2.2 = 0 ∧ (played b).2.2 = 0 := by
  unfold sameE
  split
  · exact ⟨fun h => ⟨by assumption, h⟩, fun h => h.2⟩
  · exact ⟨fun h => absurd h (by assumption), fun h => absurd h.1 (by assumption)⟩
theorem sameE_comm (a b : List Ev) : sameE a b = 0 ↔ sameE b a = 0 := by rw [sameE_zero, sameE_zero]; exact And.comm
theorem eqB_comm (a b : List Ev) : eqB a b = eqB b a := by
  unfold eqB
  by_cases h : a = b
  · subst h; rfl
  · have h' : ¬ b = a := fun e => h e.symm
    simp [h, h']
theorem sameB_comm (a b : List Ev) : sameB a b = sameB b a := by
  have e : (sameE a b == 0) = (sameE b a == 0) := by
    rw [Bool.eq_iff_iff, beq_iff_eq, beq_iff_eq]
    exact sameE_comm a b
  unfold sameB
  rw [eqB_comm, e]
theorem sameB_moved {l m : List Ev} (h : SwEq l m) (hl : (played l).2.2 = 0) : sameE l m = 0 ∧ sameB l m = true := by
  have h1 : sameE l m = 0 := sameE_zero.2 ⟨hl, h.ok hl⟩
  exact ⟨h1, by simp [sameB, h1, h.least, eqB]⟩
set_option maxHeartbeats 2000000 in
theorem sEq_any (l m : List Ev) (a a' : Option Addr) (c c' : Nat) (w : World) (h : EvS w a l) (h' : EvS w a' m) :
    Calls Try.prog 41 #[.slice a l.length c, .slice a' m.length c'] w fun e w' => e = .returned (.bool (eqB l m)) ∧ Below w.heap.size w w' := by
  have hbig := h.big
  have hbig' := h'.big
  by_cases hl : l.length = m.length
  · have hne : ((l.length : Int) != (m.length : Int)) = false := by simp [hl]
    have HL := Lib.hid hl
    have HNE := Lib.hid neq_ev
    clear hl
    go_enter Try.func41, Try.ntmps41
    go_wp2
    go_loopw [13] (fun i wr => ∃ k : Nat, k ≤ l.length ∧ i = .int .i64 k ∧ Hid (eqB l m = eqB (l.drop k) (m.drop k)) ∧ Below w.heap.size w wr) (fun i _ => l.length - (intOf i).toNat)
    case atStart => exact ⟨0, Nat.zero_le _, rfl, Lib.hid rfl, Below.refl _ _⟩
    case round =>
      obtain ⟨k, hk, rfl, HC, hb⟩ := hrel
      replace h := h.below hb
      replace h' := h'.below hb
      by_cases hlt : k < l.length
      · have hlt' : k < m.length := by rw [← HL.out]; exact hlt
        obtain ⟨b, o, rfl, d0, d1, d2⟩ := h.at hlt
        obtain ⟨b', o', rfl, e0, e1, e2⟩ := h'.at hlt'
        have hd : l.drop k = l[k] :: l.drop (k + 1) := List.drop_eq_getElem_cons hlt
        have hd' : m.drop k = m[k] :: m.drop (k + 1) := List.drop_eq_getElem_cons hlt'
        generalize l[k] = y at *
        generalize m[k] = y' at *
        have hr : eqB l m = (decide (y = y') && eqB (l.drop (k + 1)) (m.drop (k + 1))) := by rw [HC.out, hd, hd']; simp [eqB]
        have HR := Lib.hid hr
        have i0 : (0 : Int) ≤ k := by omega
        have i1 : (k : Int) < m.length := by omega
        clear hr hd hd' HC
        by_cases hy : y = y'
        · subst hy
          have HR2 := Lib.hid (show eqB l m = eqB (l.drop (k + 1)) (m.drop (k + 1)) by rw [HR.out]; simp)
          have hq : ∀ W, (binOp .neq 37 (evV y) (evV y)).run Try.prog W = .ok (.bool false) W := fun W => by rw [HNE.out]; simp
          clear HR
          go_wp2
          go_quiet (fail)
          go_wp2
          go_roundw
          case rel => exact ⟨k + 1, by omega, by go_num, HR2, below_drewN hb _⟩
          case measure => simp [intOf]; omega
        · have HR2 := Lib.hid (show eqB l m = false by rw [HR.out]; simp [hy])
          have hq : ∀ W, (binOp .neq 37 (evV y) (evV y')).run Try.prog W = .ok (.bool true) W := fun W => by rw [HNE.out]; simp [hy]
          clear HR hy
          go_wp2
          go_quiet (fail)
          go_wp2
          go_ret
          rw [HR2.out]
          exact ⟨rfl, below_drewN hb _⟩
      · have hr : eqB l m = true := by rw [HC.out, List.drop_eq_nil_of_le (by omega), List.drop_eq_nil_of_le (by rw [← HL.out]; omega)]; simp [eqB]
        have HR := Lib.hid hr
        clear hr HC
        go_wp2
        go_ret
        rw [HR.out]
        exact ⟨rfl, hb⟩
  · have hne : ((l.length : Int) != (m.length : Int)) = true := by simp; omega
    have hr : eqB l m = false := by simp [eqB]; exact fun e => hl (by rw [e])
    rw [hr]
    clear hr
    go_enter Try.func41, Try.ntmps41
    go_wp2
    go_ret
    exact ⟨rfl, Below.refl _ _⟩
end Go.Proofs.Ythfeakfakjecoaa
