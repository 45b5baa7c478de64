/- Contract of Rest. -/
import Derived.Test.YtoohconipcleiaaChecked
import Derived.Test.YtoohconipcleiaaMD
import Derived.IntWalk
namespace Go.Proofs.Ytoohconipcleiaa
open Go.RowKit

set_option maxHeartbeats 400000 in
theorem rest_any (n m : Int) (w : World) (hm : 0 < m) (hm2 : m ≤ 4611686018427387904) :
    Calls Try.prog 23 #[.int .i64 n, .int .i64 m] w fun e w' => e = .returned (.int .i64 (n % m)) ∧ w' = w := by
  have h0 := Int.emod_nonneg n (show m ≠ 0 by omega)
  have h1 := Int.emod_lt_of_pos n hm
  have h2 : n.tmod m = n % m ∨ (n.tmod m < 0 ∧ n.tmod m + m = n % m) := by
    by_cases hn : 0 ≤ n
    · exact .inl (Int.tmod_eq_emod_of_nonneg hn)
    · by_cases hd : m ∣ n
      · exact .inl (by rw [Int.emod_eq_zero_of_dvd hd, Int.tmod_eq_zero_of_dvd hd])
      · right
        have := Int.tmod_eq_emod (a := n) (b := m)
        rw [this]
        have e : ¬ (0 ≤ n ∨ m ∣ n) := by simp [hn, hd]
        rw [if_neg e]
        omega
  have hz : (m == 0) = false := by simp; omega
  have h3 : -4611686018427387904 ≤ n.tmod m ∧ n.tmod m ≤ 4611686018427387904 := by omega
  have h4 : ¬ (m = -1) := by omega
  have h5 := IntWalk.i64_in (n.tmod m) (by omega)
  generalize hq : n.tmod m = q at *
  rcases h2 with h2 | ⟨h2, h6⟩
  · have d : decide (q < 0) = false := by simp; omega
    have H2 := Lib.hid h2
    have HQ := Lib.hid hq
    clear h2 
    go_enter Try.func23, Try.ntmps23
    go_wp2
    go_ret
    exact ⟨ret_int H2.out, rfl⟩
  · have d : decide (q < 0) = true := by simp; omega
    have h7 := IntWalk.i64_in (q + m) (by omega)
    have H6 := Lib.hid h6
    clear h6
    go_enter Try.func23, Try.ntmps23
    go_wp2
    go_ret
    exact ⟨ret_int H6.out, rfl⟩

end Go.Proofs.Ytoohconipcleiaa
