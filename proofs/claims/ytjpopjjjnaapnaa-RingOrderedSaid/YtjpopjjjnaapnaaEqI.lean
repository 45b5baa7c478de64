/- Contract of Eq at ints. -/
import Derived.Test.YtjpopjjjnaapnaaChecked
import Derived.Test.YtjpopjjjnaapnaaLst
import Derived.IntWalk
namespace Go.Proofs.Ytjpopjjjnaapnaa
open Go.RowKit

set_option maxHeartbeats 400000 in
theorem eqInt_any (l m : List Int) (a a' : Option Addr) (c c' : Nat) (w : World) (h : IntS w a l) (h' : IntS w a' m) :
    Calls Try.prog 22 #[.slice a l.length c, .slice a' m.length c'] w fun e w' => e = .returned (.bool (eqB l m)) ∧ w' = w := by
  have hbig := h.big
  have hbig' := h'.big
  by_cases hl : l.length = m.length
  · have hne : ((l.length : Int) != (m.length : Int)) = false := by simp [hl]
    have HL := Lib.hid hl
    clear hl
    go_enter Try.func22, Try.ntmps22
    go_wp2
    go_loop [14] (fun i => ∃ k : Nat, k ≤ l.length ∧ i = .int .i64 k ∧ Hid (eqB l m = eqB (l.drop k) (m.drop k))) (fun i => l.length - (intOf i).toNat)
    case atStart => exact ⟨0, Nat.zero_le _, rfl, Lib.hid rfl⟩
    case round =>
      obtain ⟨k, hk, rfl, HC⟩ := hrel
      by_cases hlt : k < l.length
      · have hlt' : k < m.length := by rw [← HL.out]; exact hlt
        obtain ⟨b, o, rfl, hc⟩ := h.at hlt
        obtain ⟨b', o', rfl, hc'⟩ := h'.at hlt'
        have hd : l.drop k = l[k] :: l.drop (k + 1) := List.drop_eq_getElem_cons hlt
        have hd' : m.drop k = m[k] :: m.drop (k + 1) := List.drop_eq_getElem_cons hlt'
        generalize l[k] = y at *
        generalize m[k] = y' at *
        have hr : eqB l m = (decide (y = y') && eqB (l.drop (k + 1)) (m.drop (k + 1))) := by rw [HC.out, hd, hd']; simp [eqB]
        have HR := Lib.hid hr
        clear hr hd hd' HC
        by_cases hy : y = y'
        · subst hy
          have HR2 := Lib.hid (show eqB l m = eqB (l.drop (k + 1)) (m.drop (k + 1)) by rw [HR.out]; simp)
          clear HR
          go_wp2
          go_round
          case rel => exact ⟨k + 1, by omega, by go_num, HR2⟩
          case measure => simp [intOf]; omega
        · have HR2 := Lib.hid (show eqB l m = false by rw [HR.out]; simp [hy])
          have hyy : (y != y') = true := by simpa using hy
          clear HR
          go_wp2
          go_ret
          rw [HR2.out]
          exact ⟨rfl, rfl⟩
      · have hr : eqB l m = true := by rw [HC.out, List.drop_eq_nil_of_le (by omega), List.drop_eq_nil_of_le (by rw [← HL.out]; omega)]; simp [eqB]
        have HR := Lib.hid hr
        clear hr HC
        go_wp2
        go_ret
        rw [HR.out]
        exact ⟨rfl, rfl⟩
  · have hne : ((l.length : Int) != (m.length : Int)) = true := by simp; omega
    have hr : eqB l m = false := by simp [eqB]; exact fun e => hl (by rw [e])
    rw [hr]
    clear hr
    go_enter Try.func22, Try.ntmps22
    go_wp2
    go_ret
    exact ⟨rfl, rfl⟩
end Go.Proofs.Ytjpopjjjnaapnaa
