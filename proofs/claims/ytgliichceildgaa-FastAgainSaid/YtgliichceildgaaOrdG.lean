/- Contract of the laws' 'ahead'. -/
import Derived.Test.YtgliichceildgaaOrdE
import Derived.Test.YtgliichceildgaaMap
namespace Go.Proofs.Ytgliichceildgaa
open Go.RowKit Go.Maps

theorem I64P_bef {l : List Ev} (hl : l.length ≤ 80) : ∀ p ∈ befL l, I64P p := by
  intro p hp
  obtain ⟨i, j, rfl, hij, hj, _⟩ := mem_allP.1 hp
  exact ⟨⟨by simp only; omega, by simp only; omega⟩, ⟨by simp only; omega, by simp only; omega⟩⟩
theorem befL_len (l : List Ev) (hl : l.length ≤ 80) : (befL l).length ≤ 6400 := by
  have h1 := allP_len (befM l) l.length l.length
  have h2 : l.length * l.length ≤ 80 * 80 := Nat.mul_le_mul hl hl
  simp only [befL]
  omega
def AheadPost (L : List (Int × Int)) (w : World) (r : Ending) (w' : World) : Prop := ∃ b n, r = .returned (.map (some b)) ∧ w.heap.size ≤ b ∧ n ≤ 6400 ∧ MapP w' b n L ∧ Below w.heap.size w w'
set_option maxRecDepth 100000 in
set_option maxHeartbeats 1000000 in
theorem aheadMap_ok (l : List Ev) (a : Option Addr) (c : Nat) (w : World) (h : EvS w a l) (he : (played l).2.2 = 0) :
    Calls Try.prog 18 #[.slice a l.length c] w (AheadPost (befL l) w) := by
  obtain ⟨hl80, _⟩ := played_evs he
  have hmm := @run_makeMap Try.prog
  have hbo := before_ok l a c w h he
  have HI := Lib.hid (I64P_bef hl80)
  have hll := befL_len l hl80
  generalize befL l = L at *
  clear he
  go_enter Try.func18, Try.ntmps18
  go_wp2_with fail
  refine hbo.mono ?_
  clear hbo
  rintro r w1 ⟨v, rfl, hown, hb⟩
  have hex : ∃ a2 c2, v = .slice a2 L.length c2 ∧ PrS w1 a2 L := prS_own hown (by omega)
  obtain ⟨a2, c2, rfl, hP⟩ := hex
  clear hown h
  have hM := MapP.made w1
  have hb1 := (Below.refl w1.heap.size w1).alloc (Nat.le_refl _) (.map #[] 0)
  go_wp2
  go_loopw [18] (fun i wr => ∃ k : Nat, k ≤ L.length ∧ i = .int .i64 k ∧ MapP wr w1.heap.size k (L.take k) ∧ Below w1.heap.size w1 wr) (fun i _ => L.length - (intOf i).toNat)
  case atStart => exact ⟨0, Nat.zero_le _, rfl, hM, hb1⟩
  case round =>
    clear hM hb1
    obtain ⟨k, hk, rfl, hM, hb1⟩ := hrel
    by_cases hlt : k < L.length
    · obtain ⟨b, o, rfl, d0, d1⟩ := (hP.below hb1).at hlt
      have hx : L.take (k + 1) = L.take k ++ [L[k]] := by rw [List.take_add_one, List.getElem?_eq_getElem hlt]; rfl
      have hi := HI.out L[k] (List.getElem_mem hlt)
      generalize L[k] = x at *
      have HX := Lib.hid hx
      clear hx
      have hMx := hM.alloc (.cells (prC x) 36)
      have hb2 := hb1.alloc hb1.size (.cells (prC x) 36)
      go_wp2_with (first | (at_mapUpdate; refine wpList_mapUpdate_own _ rfl _ _ _ 29 rfl 36 4 pr_keyed Try.underlying29 _ w1.heap.size k (prD (L.take k)) rfl hMx (by unfold maxLen; omega) _ _ (prKey x) rfl rfl (keyOf_pr x hi.1 hi.2) (.lit (.bool true)) [] (plainElem_bool Try.underlying4 true) ?_; intro w3 hM3 hg3) | go_in)
      go_wp2
      go_roundw
      case rel => exact ⟨k + 1, by omega, by go_num, by rw [HX.out, MapP, prD_snoc]; exact hM3, hb2.grown hg3 hb2.size (fun j hj => by cases hj; exact Nat.le_refl _)⟩
      case measure => (simp [intOf]; try omega)
    · obtain rfl : k = L.length := by omega
      rw [List.take_length] at hM
      go_wp2
      go_ret
      exact ⟨_, _, rfl, hb.size, by omega, hM, hb.trans (hb1.mono hb.size)⟩
end Go.Proofs.Ytgliichceildgaa
