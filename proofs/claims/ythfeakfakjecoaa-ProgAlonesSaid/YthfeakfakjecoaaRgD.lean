/- Contracts: read, Ring. -/
import Derived.Test.YthfeakfakjecoaaRgC
namespace Go.Proofs.Ythfeakfakjecoaa
open Go.RowKit

/-- Is there such a pair? -/
def edgeP (p : List (Int × Int)) (i j : Nat) : Bool := hasB p ((i : Int), (j : Int))
abbrev grZ : Array Value := #[.bool false, .bool false, .bool false, .bool false, .bool false, .bool false, .bool false, .bool false, .bool false, .bool false, .bool false, .bool false, .bool false, .bool false, .bool false, .bool false, .bool false, .bool false, .bool false, .bool false, .bool false, .bool false, .bool false, .bool false, .bool false]
theorem grC_congr {E F : Nat → Nat → Bool} (h : ∀ i j, i < 5 → j < 5 → E i j = F i j) : grC E = grC F := by
  apply Array.ext
  · simp
  · intro i h1 h2
    have hi : i < 25 := by simpa using h1
    simp only [Array.getElem_map, Array.getElem_range]
    rw [h _ _ (by omega) (by omega)]
theorem grC_set (E : Nat → Nat → Bool) {a b : Nat} (hb : b < 5) : (grC E).setIfInBounds (a * 5 + b) (.bool true) = grC fun i j => E i j || (decide (i = a) && decide (j = b)) := by
  apply Array.ext
  · simp
  · intro i h1 h2
    have hi : i < 25 := by simpa using h2
    by_cases e : a * 5 + b = i
    · subst e
      have e1 : (a * 5 + b) / 5 = a := by omega
      have e2 : (a * 5 + b) % 5 = b := by omega
      simp [e1, e2]
    · rw [Array.getElem_setIfInBounds_ne (by simpa using hi) e]
      have : ¬ (i / 5 = a ∧ i % 5 = b) := by omega
      have h3 : (decide (i / 5 = a) && decide (i % 5 = b)) = false := by
        rw [Bool.eq_false_iff]
        simpa using this
      simp [h3]
def okPr (p : List (Int × Int)) : Prop := ∀ x ∈ p, 0 ≤ x.1 ∧ x.1 < 5 ∧ 0 ≤ x.2 ∧ x.2 < 5
set_option maxRecDepth 100000 in
set_option maxHeartbeats 4000000 in
theorem read_ok (p : List (Int × Int)) (a : Option Addr) (c : Nat) (w : World) (h : PrS w a p) (hp : okPr p) :
    Calls Try.prog 53 #[.slice a p.length c] w fun r w' => r = .returned (.tuple #[.pointer (some ⟨w.heap.size, 0, none⟩), .int .i64 0]) ∧ Has w' w.heap.size (grC (edgeP p)) 146 ∧ Below w.heap.size w w' := by
  have hbig := h.big
  have HP := Lib.hid hp
  have hN : Has (w.alloc (.cells grZ 146)) w.heap.size (grC (edgeP (p.take 0))) 146 := (Has.new w grZ 146).to (by
    rw [show grZ = grC (fun _ _ => false) by kernel_rfl]
    exact grC_congr fun i j _ _ => by simp [edgeP, hasB])
  have hb := (Below.refl w.heap.size w).alloc (Nat.le_refl _) (.cells grZ 146)
  clear hp
  go_enter Try.func53, Try.ntmps53
  go_wp2
  go_loopw [11] (fun i wr => ∃ k : Nat, k ≤ p.length ∧ i = .int .i64 k ∧ Has wr w.heap.size (grC (edgeP (p.take k))) 146 ∧ Below w.heap.size w wr) (fun i _ => p.length - (intOf i).toNat)
  case atStart => exact ⟨0, Nat.zero_le _, rfl, hN, hb⟩
  case round =>
    clear hN hb
    obtain ⟨k, hk, rfl, hG, hb⟩ := hrel
    by_cases hlt : k < p.length
    · obtain ⟨g, o, rfl, d0, d1⟩ := (h.below hb).at hlt
      have hpx := HP.out _ (List.getElem_mem hlt)
      have hx : p.take (k + 1) = p.take k ++ [p[k]] := by rw [List.take_add_one, List.getElem?_eq_getElem hlt]; rfl
      obtain ⟨A, B, hAB⟩ : ∃ A B : Nat, p[k] = ((A : Int), (B : Int)) := ⟨p[k].1.toNat, p[k].2.toNat, by
        obtain ⟨h1, h2, h3, h4⟩ := hpx
        rw [Int.toNat_of_nonneg h1, Int.toNat_of_nonneg h3]⟩
      rw [hAB] at d0 d1 hpx hx
      simp only at d0 d1 hpx
      have hA : A < 5 := by omega
      have hB : B < 5 := by omega
      have hE : grC (fun i j => edgeP (p.take k) i j || (decide (i = A) && decide (j = B))) = grC (edgeP (p.take (k + 1))) := grC_congr fun i j _ _ => by
        rw [hx]
        simp only [edgeP, hasB, List.mem_append, List.mem_singleton, Prod.mk.injEq]
        rw [Bool.eq_iff_iff]
        simp only [decide_eq_true_eq, Bool.or_eq_true, Bool.and_eq_true]
        exact or_congr Iff.rfl (by omega)
      have HE := Lib.hid hE
      have hX := Has.new wr (prC ((A : Int), (B : Int))) 52
      have hG2 := hG.alloc (.cells (prC ((A : Int), (B : Int))) 52)
      have hb2 := hb.alloc hb.size (.cells (prC ((A : Int), (B : Int))) 52)
      have t1 : decide ((A : Int) < 0) = false := decide_eq_false (by omega)
      have t2 : decide ((A : Int) ≥ 5) = false := decide_eq_false (by omega)
      have t3 : decide ((B : Int) < 0) = false := decide_eq_false (by omega)
      have t4 : decide ((B : Int) ≥ 5) = false := decide_eq_false (by omega)
      have a0 : (0 : Int) ≤ A := by omega
      have a5 : (A : Int) < 5 := by omega
      have b0 : (0 : Int) ≤ B := by omega
      have b5 : (B : Int) < 5 := by omega
      have hGl := hG.lt
      clear hx hE hpx hAB hG hb
      go_upto_region 5 with fail
      clear d0 d1
      generalize wr.alloc (.cells (prC ((A : Int), (B : Int))) 52) = w5 at *
      obtain ⟨x0, x1⟩ : w5.cell? ⟨wr.heap.size, 0, none⟩ = some (.int .i64 (A : Int)) ∧ w5.cell? ⟨wr.heap.size, 1, none⟩ = some (.int .i64 (B : Int)) := ⟨hX.cell rfl, hX.cell rfl⟩
      have hg := hG2.cell (grC_get _ hA hB)
      have hf := hG2.free (A * 5 + B)
      go_upto_region 7 with fail
      go_region
      all_goals
        have hG3 := ((hG2.setCell (A * 5 + B) (.bool true)).drew).to ((grC_set _ hB).trans HE.out)
        have hb3 : Below w.heap.size w (w5.setCell ⟨w.heap.size, A * 5 + B, none⟩ (.bool true)).drew := (hb2.setCell (Nat.le_refl _) _).drew
        clear x0 x1 hg hf hX hG2 hb2
        go_wp2
        go_roundw
        case rel => exact ⟨k + 1, by omega, by go_num, hG3, hb3⟩
        case measure => (simp [intOf]; try omega)
    · obtain rfl : k = p.length := by omega
      rw [List.take_length] at hG
      go_wp2
      go_ret2
      exact ⟨rfl, hG, hb⟩
/-- A ring, or none. -/
def RingPost (L : List Int) (w : World) (r : Ending) (w' : World) : Prop := ∃ a c, r = .returned (.tuple #[.slice a L.length c, .int .i64 0]) ∧ IntS w' a L ∧ L.length ≤ c ∧ Below w.heap.size w w'
set_option maxRecDepth 100000 in
theorem ringOf_ok (p : List (Int × Int)) (a : Option Addr) (c : Nat) (w : World) (h : PrS w a p) (hp : okPr p) :
    Calls Try.prog 31 #[.slice a p.length c] w (RingPost (ringP (edgeP p)) w) := by
  go_enter Try.func31, Try.ntmps31
  go_wp2_with fail
  refine (read_ok p a c _ h hp).mono ?_
  rintro r w1 ⟨rfl, hG, hb⟩
  go_wp2_with fail
  refine (ring_any _ _ _ hG).mono ?_
  rintro r w2 ⟨a2, c2, rfl, hI, _, hc, hk⟩
  go_wp2
  go_ret2
  exact ⟨_, _, rfl, hI, hc, hb.trans (hk.mono hb.size)⟩
end Go.Proofs.Ythfeakfakjecoaa
