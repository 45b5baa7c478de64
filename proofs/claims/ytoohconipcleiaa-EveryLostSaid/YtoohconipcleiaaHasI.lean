/- Contract of Has at ints. -/
import Derived.Test.YtoohconipcleiaaChecked
import Derived.Test.YtoohconipcleiaaMD
import Derived.IntWalk
namespace Go.Proofs.Ytoohconipcleiaa
open Go.RowKit

set_option maxHeartbeats 400000 in
theorem hasInt_any (l : List Int) (x : Int) (a : Option Addr) (c : Nat) (w : World) (h : IntS w a l) :
    Calls Try.prog 32 #[.slice a l.length c, .int .i64 x] w fun e w' => e = .returned (.bool (hasB l x)) ∧ w' = w := by
  have hbig := h.big
  go_enter Try.func32, Try.ntmps32
  go_wp2
  go_loop [9] (fun i => ∃ k : Nat, k ≤ l.length ∧ i = .int .i64 k ∧ Hid (hasB l x = hasB (l.drop k) x)) (fun i => l.length - (intOf i).toNat)
  case atStart => exact ⟨0, Nat.zero_le _, rfl, Lib.hid rfl⟩
  case round =>
    obtain ⟨k, hk, rfl, HC⟩ := hrel
    by_cases hlt : k < l.length
    · obtain ⟨b, o, rfl, hc⟩ := h.at hlt
      have hd : l.drop k = l[k] :: l.drop (k + 1) := List.drop_eq_getElem_cons hlt
      generalize l[k] = y at *
      by_cases hy : x = y
      · subst hy
        have hr : hasB l x = true := by rw [HC.out, hd]; simp [hasB]
        have HR := Lib.hid hr
        clear hr hd HC
        go_wp2
        go_ret
        rw [HR.out]
        exact ⟨rfl, rfl⟩
      · have hxy : (x == y) = false := by simpa using hy
        have hr : hasB l x = hasB (l.drop (k + 1)) x := by rw [HC.out, hd]; simp [hasB, hy]
        have HR := Lib.hid hr
        clear hr hd HC
        go_wp2
        go_round
        case rel => exact ⟨k + 1, by omega, by go_num, HR⟩
        case measure => simp [intOf]; omega
    · have hr : hasB l x = false := by rw [HC.out, List.drop_eq_nil_of_le (by omega)]; simp [hasB]
      have HR := Lib.hid hr
      clear hr HC
      go_wp2
      go_ret
      rw [HR.out]
      exact ⟨rfl, rfl⟩

end Go.Proofs.Ytoohconipcleiaa
