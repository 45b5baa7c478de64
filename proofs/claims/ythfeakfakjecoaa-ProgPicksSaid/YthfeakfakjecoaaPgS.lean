/- A cell of a state, set. No walk. -/
import Derived.Test.YthfeakfakjecoaaPgB
namespace Go.Proofs.Ythfeakfakjecoaa
open Go.RowKit

theorem psF_congr {s s' : PS} {j : Nat} (h1 : j < 8 → s.mem j = s'.mem j) (h2 : 8 ≤ j → j < 12 → s.vols (j - 8) = s'.vols (j - 8)) (h3 : 12 ≤ j → j < 18 → s.has (j - 12) = s'.has (j - 12))
    (h4 : 20 ≤ j → j < 26 → s.at_ (j - 20) = s'.at_ (j - 20)) (h5 : 26 ≤ j → j < 32 → s.begun (j - 26) = s'.begun (j - 26)) (h6 : 32 ≤ j → s.owner (j - 32) = s'.owner (j - 32)) : psF s false false j = psF s' false false j := by
  unfold psF
  by_cases c1 : j < 8
  · rw [if_pos c1, if_pos c1, h1 c1]
  rw [if_neg c1, if_neg c1]
  by_cases c2 : j < 12
  · rw [if_pos c2, if_pos c2, h2 (by omega) c2]
  rw [if_neg c2, if_neg c2]
  by_cases c3 : j < 18
  · rw [if_pos c3, if_pos c3, h3 (by omega) c3]
  rw [if_neg c3, if_neg c3]
  by_cases c4 : j = 18
  · rw [if_pos c4, if_pos c4]
  rw [if_neg c4, if_neg c4]
  by_cases c5 : j = 19
  · rw [if_pos c5, if_pos c5]
  rw [if_neg c5, if_neg c5]
  by_cases c6 : j < 26
  · rw [if_pos c6, if_pos c6, h4 (by omega) c6]
  rw [if_neg c6, if_neg c6]
  by_cases c7 : j < 32
  · rw [if_pos c7, if_pos c7, h5 (by omega) c7]
  rw [if_neg c7, if_neg c7, h6 (by omega)]
theorem psR_tick (s : PS) (R : List Value) {n : Nat} (h : n < 6) : (psR s R).setIfInBounds (20 + n) (.int .i64 ((s.at_ n : Int) + 1)) = psR (tick s n) R := by
  refine psR_set s _ R (by omega) ?_ (fun j hj hne => psF_congr (fun _ => rfl) (fun _ _ => rfl) (fun _ _ => rfl) (fun _ _ => (by show _ = upN s.at_ n (s.at_ n + 1) (j - 20); unfold upN; rw [if_neg (by omega)])) (fun _ _ => rfl) (fun _ => rfl))
  unfold psF
  rw [if_neg (by omega), if_neg (by omega), if_neg (by omega), if_neg (by omega), if_neg (by omega), if_pos (by omega), Nat.add_sub_cancel_left]
  simp [tick, upN]
theorem psR_has (s : PS) (R : List Value) {n : Nat} (h : n < 6) (x : Int) : (psR s R).setIfInBounds (12 + n) (.int .i64 x) = psR { s with has := upZ s.has n x } R := by
  refine psR_set s _ R (by omega) ?_ (fun j hj hne => psF_congr (fun _ => rfl) (fun _ _ => rfl) (fun _ _ => (by show _ = upZ s.has n x (j - 12); unfold upZ; rw [if_neg (by omega)])) (fun _ _ => rfl) (fun _ _ => rfl) (fun _ => rfl))
  unfold psF
  rw [if_neg (by omega), if_neg (by omega), if_pos (by omega), Nat.add_sub_cancel_left]
  simp [upZ]
theorem psR_mem (s : PS) (R : List Value) {n : Nat} (h : n < 8) (x : Int) : (psR s R).setIfInBounds n (.int .i64 x) = psR { s with mem := upZ s.mem n x } R := by
  refine psR_set s _ R (by omega) ?_ (fun j hj hne => psF_congr (fun _ => (by show _ = upZ s.mem n x j; unfold upZ; rw [if_neg (by omega)])) (fun _ _ => rfl) (fun _ _ => rfl) (fun _ _ => rfl) (fun _ _ => rfl) (fun _ => rfl))
  unfold psF
  rw [if_pos (by omega)]
  simp [upZ]
theorem psR_vols (s : PS) (R : List Value) {n : Nat} (h : n < 4) (x : Int) : (psR s R).setIfInBounds (8 + n) (.int .i64 x) = psR { s with vols := upZ s.vols n x } R := by
  refine psR_set s _ R (by omega) ?_ (fun j hj hne => psF_congr (fun _ => rfl) (fun _ _ => (by show _ = upZ s.vols n x (j - 8); unfold upZ; rw [if_neg (by omega)])) (fun _ _ => rfl) (fun _ _ => rfl) (fun _ _ => rfl) (fun _ => rfl))
  unfold psF
  rw [if_neg (by omega), if_pos (by omega), Nat.add_sub_cancel_left]
  simp [upZ]
theorem psR_owner (s : PS) (R : List Value) {n : Nat} (h : n < 5) (x : Int) : (psR s R).setIfInBounds (32 + n) (.int .i64 x) = psR { s with owner := upZ s.owner n x } R := by
  refine psR_set s _ R (by omega) ?_ (fun j hj hne => psF_congr (fun _ => rfl) (fun _ _ => rfl) (fun _ _ => rfl) (fun _ _ => rfl) (fun _ _ => rfl) (fun _ => (by show _ = upZ s.owner n x (j - 32); unfold upZ; rw [if_neg (by omega)])))
  unfold psF
  rw [if_neg (by omega), if_neg (by omega), if_neg (by omega), if_neg (by omega), if_neg (by omega), if_neg (by omega), if_neg (by omega), Nat.add_sub_cancel_left]
  simp [upZ]
theorem psR_begun (s : PS) (R : List Value) {n : Nat} (h : n < 6) : (psR s R).setIfInBounds (26 + n) (.bool true) = psR { s with begun := upT s.begun n } R := by
  refine psR_set s _ R (by omega) ?_ (fun j hj hne => psF_congr (fun _ => rfl) (fun _ _ => rfl) (fun _ _ => rfl) (fun _ _ => rfl) (fun _ _ => (by show _ = upT s.begun n (j - 26); unfold upT; rw [if_neg (by omega)])) (fun _ => rfl))
  unfold psF
  rw [if_neg (by omega), if_neg (by omega), if_neg (by omega), if_neg (by omega), if_neg (by omega), if_neg (by omega), if_pos (by omega), Nat.add_sub_cancel_left]
  simp [upT]
end Go.Proofs.Ythfeakfakjecoaa
