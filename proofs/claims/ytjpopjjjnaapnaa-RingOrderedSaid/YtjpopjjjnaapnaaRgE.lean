/- Contracts: locks (pairs of locks out of pairs), ringed. -/
import Derived.Test.YtjpopjjjnaapnaaRgD
import Derived.Test.YtjpopjjjnaapnaaRest
import Derived.Test.YtjpopjjjnaapnaaEqI
import Derived.Deep.RegionLaw
namespace Go.Proofs.Ytjpopjjjnaapnaa
open Go.RowKit

def lockP (x : Int × Int) : Int × Int := (x.1 % 5, x.2 % 5)
theorem lockP_ok (p : List (Int × Int)) : okPr (p.map lockP) := by
  intro x hx
  obtain ⟨y, _, rfl⟩ := List.mem_map.1 hx
  simp only [lockP]
  omega
theorem infoPr : (Try.prog.info? 31).map (fun i => (i.zero, i.size, i.bytes)) = some (some (prV (0, 0)), 2, 16) := by kernel_rfl
theorem prS_ownc {w : World} {base : Nat} {e : TypeId} {v : Value} {l : List (Int × Int)} (h : w.ownsRow base e 2 v l.length (prL l)) (hb : l.length < 4611686018427387904) : ∃ a c, v = .slice a l.length c ∧ PrS w a l ∧ l.length ≤ c ∧ (a = none ∧ c = 0 ∧ l.length = 0 ∨ ∃ g, a = some ⟨g, 0, none⟩) := by
  rcases h.2 with ⟨rfl, hn⟩ | ⟨g, cap, cur, rfl, hg, hh, hnc, _⟩
  · exact ⟨none, 0, by rw [hn], ⟨hb, .inl (List.eq_nil_of_length_eq_zero hn)⟩, by omega, .inl ⟨rfl, rfl, hn⟩⟩
  · obtain ⟨a, c, h1, h2⟩ := prS_own h hb
    cases h1
    exact ⟨_, _, rfl, h2, hnc, .inr ⟨g, rfl⟩⟩
set_option maxRecDepth 100000 in
set_option maxHeartbeats 8000000 in
theorem locks_any (p : List (Int × Int)) (a : Option Addr) (c : Nat) (w : World) (h : PrS w a p) (hp : p.length * 16 ≤ 140737488351232) :
    Calls Try.prog 16 #[.slice a p.length c] w fun r w' => ∃ a' c', r = .returned (.slice a' p.length c') ∧ PrS w' a' (p.map lockP) ∧ (p.length ≤ c' ∧ (a' = none ∧ c' = 0 ∧ p.length = 0 ∨ ∃ g, a' = some ⟨g, 0, none⟩)) ∧ Below w.heap.size w w' := by
  obtain ⟨i0, hi, hz0, hz1, hz2⟩ := info_parts infoPr
  have hbig := h.big
  go_enter Try.func16, Try.ntmps16
  go_wp2
  go_loopw [3, 8] (fun v i wr => ∃ k : Nat, k ≤ p.length ∧ i = .int .i64 k ∧ wr.ownsRow w.heap.size 31 2 v k (prL ((p.take k).map lockP)) ∧ Below w.heap.size w wr) (fun _ i _ => p.length - (intOf i).toNat)
  case atStart => exact ⟨0, Nat.zero_le _, rfl, World.ownsRow_nil _ _ _ _, Below.refl _ _⟩
  case round =>
    obtain ⟨k, hk, rfl, hown, hb⟩ := hrel
    by_cases hlt : k < p.length
    · obtain ⟨g, o, rfl, d0, d1⟩ := (h.below hb).at hlt
      have hx : prL ((p.take (k + 1)).map lockP) = prL ((p.take k).map lockP) ++ prL [lockP p[k]] := by
        rw [List.take_add_one, List.getElem?_eq_getElem hlt, List.map_append, prL_append]; rfl
      have HX := Lib.hid hx
      clear hx
      obtain ⟨A, B, hAB⟩ : ∃ A B : Int, p[k] = (A, B) := ⟨p[k].1, p[k].2, rfl⟩
      rw [hAB] at d0 d1 HX
      simp only at d0 d1
      have hX := Has.new wr (prC (A, B)) 31
      have hb2 := hb.alloc hb.size (.cells (prC (A, B)) 31)
      have hown2 := hown.alloc (.cells (prC (A, B)) 31)
      clear hAB hb hown
      go_upto_region 5 with fail
      clear d0 d1
      generalize wr.alloc (.cells (prC (A, B)) 31) = w5 at *
      obtain ⟨x0, x1⟩ : w5.cell? ⟨wr.heap.size, 0, none⟩ = some (.int .i64 A) ∧ w5.cell? ⟨wr.heap.size, 1, none⟩ = some (.int .i64 B) := ⟨hX.cell rfl, hX.cell rfl⟩
      have hs := hb2.size
      go_region_law (first
        | (go_simp; go_at_call_of 20 (Value.int .i64 A); refine (rest_any A 5 _ (by omega) (by omega)).mono ?_; rintro r v6 ⟨rfl, rfl⟩)
        | (go_simp; go_at_call_of 20 (Value.int .i64 B); refine (rest_any B 5 _ (by omega) (by omega)).mono ?_; rintro r v6 ⟨rfl, rfl⟩)
        | (refine app_step _ rfl (.tmp 12) (.tmp 20) 22 rfl Try.underlying22 hi hz0 hz1 hz2 rfl (by decide) (by conv => lhs; simp [go_sem]) ((own_below hown2 ((Below.refl _ _).drew)).alloc _) (A := some ⟨w5.heap.size, 0, none⟩) (m := 1) (c := 1) (news := prL [lockP (A, B)]) (by simp [go_sem]) ⟨rfl, .inr ⟨_, rfl, fun j u hu => (Has.new w5.drew (prC (lockP (A, B))) 31).cell_add (by simpa [prL] using hu)⟩⟩ (prL_one _) (by unfold maxLen; omega) (by omega) (by simp; omega) ?_; intro v' w6 hA))
      all_goals
        have hb6 := hA.below ((own_below hown2 ((Below.refl _ _).drew)).alloc _) ((hb2.drew).alloc (by simp; omega) _) (by simp; omega)
        have ho6 := hA.own
        rw [← HX.out] at ho6
        clear hA hown2 hb2 hX x0 x1 hs HX
        go_wp2
        go_roundw
        case rel => exact ⟨k + 1, by omega, by go_num, ho6, hb6⟩
        case measure => (simp [intOf]; try omega)
    · obtain rfl : k = p.length := by omega
      rw [List.take_length] at hown
      obtain ⟨a', c', rfl, h2, h3⟩ := prS_ownc (l := p.map lockP) (by rw [List.length_map]; exact hown) (by simpa using hbig)
      rw [List.length_map] at *
      go_wp2
      go_ret
      exact ⟨_, _, rfl, h2, h3, hb⟩
set_option maxRecDepth 100000 in
theorem ringed_any (w : World) : Calls Try.prog 15 #[] w fun r w' => r = .returned (.bool true) ∧ Below w.heap.size w w' := by
  have hP := prS_full (l := [((1 : Int), (3 : Int)), (3, 1)]) (Has.new w #[.int .i64 1, .int .i64 3, .int .i64 3, .int .i64 1] 31) rfl (by simp)
  have hb1 := (Below.refl w.heap.size w).alloc (Nat.le_refl _) (.cells #[.int .i64 1, .int .i64 3, .int .i64 3, .int .i64 1] 31)
  have hR : ringP (edgeP [(1, 3), (3, 1)]) = [1, 3] := by decide +kernel
  have HR := Lib.hid hR
  clear hR
  go_enter Try.func15, Try.ntmps15
  go_wp2_with fail
  have hck := ringOf_ok _ _ 2 _ hP (by intro x hx; simp at hx; rcases hx with rfl | rfl <;> simp)
  rw [HR.out, show [((1 : Int), (3 : Int)), (3, 1)].length = 2 from rfl] at hck
  refine hck.mono ?_
  rintro r w1 ⟨a1, c1, rfl, hI, _, hk⟩
  have hb2 := hb1.trans (hk.mono hb1.size)
  have hN := intS_full (l := [1, 3]) (Has.new w1 #[.int .i64 1, .int .i64 3] 3) rfl (by simp)
  have hb3 := hb2.alloc hb2.size (.cells #[.int .i64 1, .int .i64 3] 3)
  have hI2 := hI.below ((Below.refl _ _).alloc (Nat.le_refl _) (.cells #[.int .i64 1, .int .i64 3] 3))
  have heq := eqInt_any _ _ _ _ c1 2 _ hI2 hN
  clear hck hI hk hb1 hb2 hP
  go_wp2_with fail
  refine heq.mono ?_
  rintro r w2 ⟨rfl, rfl⟩
  go_wp2
  go_ret
  exact ⟨rfl, hb3⟩
end Go.Proofs.Ytjpopjjjnaapnaa
