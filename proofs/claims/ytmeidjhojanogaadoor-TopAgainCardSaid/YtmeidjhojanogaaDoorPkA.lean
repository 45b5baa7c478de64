/- Contracts of package pack: sum. -/
import Derived.Test.YtmeidjhojanogaaDoorMD
import Derived.IntWalk
namespace Go.Proofs.YtmeidjhojanogaaDoor
open Go.RowKit

/-- A slice of bytes: its elements read as a list of numbers. -/
structure ByS (w : World) (a : Option Addr) (l : List Int) : Prop where
  big : l.length ≤ 140737488355328
  rng : ∀ n ∈ l, 0 ≤ n ∧ n ≤ 255
  ok : l = [] ∨ ∃ b o, a = some ⟨b, o, none⟩ ∧ ∀ i (h : i < l.length), w.cell? ⟨b, o + i, none⟩ = some (.int .u8 l[i])
theorem ByS.below {w w' : World} {a : Option Addr} {l : List Int} (h : ByS w a l) (k : Below w.heap.size w w') : ByS w' a l := by
  refine ⟨h.big, h.rng, ?_⟩
  rcases h.ok with h0 | ⟨b, o, ha, hc⟩
  · exact .inl h0
  · exact .inr ⟨b, o, ha, fun i hi => (k.cell (World.block_lt_of_cell? w _ (hc i hi))).trans (hc i hi)⟩
theorem ByS.at {w : World} {a : Option Addr} {l : List Int} (h : ByS w a l) {i : Nat} (hi : i < l.length) : ∃ b o, a = some ⟨b, o, none⟩ ∧ w.cell? ⟨b, o + i, none⟩ = some (.int .u8 l[i]) := by
  rcases h.ok with h0 | ⟨b, o, ha, hc⟩
  · simp [h0] at hi
  · exact ⟨b, o, ha, hc i hi⟩
def sumL (l : List Int) : Int := l.foldl (· + ·) 0
theorem foldl_add (l : List Int) : ∀ a : Int, l.foldl (· + ·) a = a + sumL l := by
  unfold sumL
  induction l with
  | nil => intro a; simp
  | cons x l ih => intro a; simp only [List.foldl_cons]; rw [ih, ih (0 + x)]; omega
theorem sumL_snoc (l : List Int) (x : Int) : sumL (l ++ [x]) = sumL l + x := by simp [sumL, List.foldl_append]
theorem sumL_bd (l : List Int) (h : ∀ n ∈ l, 0 ≤ n ∧ n ≤ 255) : 0 ≤ sumL l ∧ sumL l ≤ 255 * l.length := by
  induction l with
  | nil => simp [sumL]
  | cons x l ih =>
    have h1 := ih fun n hn => h n (by simp [hn])
    have h2 := h x (by simp)
    have h3 : sumL (x :: l) = x + sumL l := by unfold sumL; rw [List.foldl_cons, foldl_add]; unfold sumL; omega
    simp only [List.length_cons]
    omega

set_option maxHeartbeats 1000000 in
theorem sum_any (l : List Int) (a : Option Addr) (c : Nat) (w : World) (h : ByS w a l) :
    Calls Tryd.prog 35 #[.slice a l.length c] w fun r w' => r = .returned (.slice (some ⟨w.heap.size, 0, none⟩) 2 2) ∧ Has w' w.heap.size #[.int .u8 (sumL l / 256 % 256), .int .u8 (sumL l % 256)] 5 ∧ Below w.heap.size w w' := by
  have hbig := h.big
  go_enter Tryd.func35, Tryd.ntmps35
  go_wp2
  go_loop [3, 8] (fun n i => ∃ k : Nat, k ≤ l.length ∧ i = .int .i64 k ∧ n = .int .i64 (sumL (l.take k))) (fun _ i => l.length - (intOf i).toNat)
  case atStart => exact ⟨0, Nat.zero_le _, rfl, rfl⟩
  case round =>
    obtain ⟨k, hk, rfl, rfl⟩ := hrel
    have hbd := sumL_bd (l.take k) fun n hn => h.rng n (List.mem_of_mem_take hn)
    have hlk : (l.take k).length ≤ l.length := by simp; omega
    by_cases hlt : k < l.length
    · obtain ⟨b, o, rfl, hc⟩ := h.at hlt
      have hx := h.rng l[k] (List.getElem_mem hlt)
      have hs := sumL_snoc (l.take k) l[k]
      rw [← List.take_succ_eq_append_getElem hlt] at hs
      generalize l[k] = x at *
      have HS := Lib.hid hs
      clear hs
      go_wp2
      go_round
      case rel => exact ⟨k + 1, by omega, by go_num, by rw [HS.out]⟩
      case measure => simp [intOf]; omega
    · obtain rfl : k = l.length := by omega
      rw [List.take_length] at *
      go_wp2
      go_ret
      exact ⟨rfl, Has.new _ _ _, (Below.refl _ _).alloc (by simp) _⟩
end Go.Proofs.YtmeidjhojanogaaDoor
