/- Contract of the full detector's Last: a valid trace. -/
import Derived.Test.YtgliichceildgaaFrl
import Derived.Deep.RegionHeld3
namespace Go.Proofs.Ytgliichceildgaa
open Go.RowKit

theorem six_keep {x : Nat} (hx : x < 8) {W : World} {b : Nat} {F G : Nat → Nat → Int} {T : TypeId} (h : Has W b (vrC F G) T) : Has W b (vrC F G) T ∧ Six6 W b (x * 12) (F x) ∧ Six6 W b (x * 12 + 6) (G x) := ⟨h, h.rd6 hx, h.wr6 hx⟩
set_option maxRecDepth 100000 in
set_option maxHeartbeats 4000000 in
theorem last_ok (l : List Ev) (a : Option Addr) (c x : Nat) (w : World) (h : EvS w a l) (he : (played l).2.2 = 0) (hx : x < 8) :
    Calls Try.prog 25 #[.slice a l.length c, .int .i64 x] w fun r w' => r = .returned (.tuple #[clkV (rdAt l l.length x), clkV (wrAt l l.length x), .int .i64 0]) ∧ Below w.heap.size w w' := by
  have e2 : ((played l).2.2 != 0) = false := by simpa using he
  have hzv := vars_zero
  have hA := (Has.new w (clkC fun _ => 0) 49).alloc (.cells (clkC fun _ => 0) 49)
  have hB := (Has.new (w.alloc (.cells (clkC fun _ => 0) 49)) (clkC fun _ => 0) 49).at (c := w.heap.size + 1) (by simp)
  have hb0 := ((Below.refl w.heap.size w).alloc (Nat.le_refl _) (.cells (clkC fun _ => 0) 49)).alloc (by simp) (.cells (clkC fun _ => 0) 49)
  have i0 : (0 : Int) ≤ x := by omega
  have i8 : (x : Int) < 8 := by omega
  replace h := h.below (((Below.refl w.heap.size w).alloc (Nat.le_refl _) (.cells (clkC fun _ => 0) 49)).alloc (by simp) (.cells (clkC fun _ => 0) 49))
  go_enter Try.func25, Try.ntmps25
  go_wp2_with fail
  refine (check_any l a c _ h).mono ?_
  rintro r w1 ⟨rfl, hb⟩
  replace h := h.below hb
  replace hA := hA.below hb hA.lt
  replace hB := hB.below hb hB.lt
  replace hb := hb0.trans (hb.mono hb0.size)
  clear hb0
  go_wp2_with fail
  refine (frun_ok l a c _ h he).mono ?_
  rintro r w2 ⟨v, rfl, hown, hk⟩
  replace hA := hA.below hk hA.lt
  replace hB := hB.below hk hB.lt
  have hb2 := hb.trans (hk.mono hb.size)
  have hN := Has.new w2 (vrC (fun _ _ => 0) fun _ _ => 0) 69
  have hb3 := hb2.alloc hb2.size (.cells (vrC (fun _ _ => 0) fun _ _ => 0) 69)
  have hAl := hA.lt
  have hBl := hB.lt
  clear hb hk hown
  go_upto_region 7 with (first | (refine wpList_store_mid rfl _ _ _ rfl _ 0 (vrC (rdAt l l.length) (wrAt l l.length)) rfl rfl ?_ ?_ (rowI_one _ _) ?_) | go_in)
  · have := hN.thereW
    rw [rowI_size] at this ⊢
    exact this
  · rw [rowI_size]; exact vars_size
  replace hA := (hA.alloc (.cells (vrC (fun _ _ => 0) fun _ _ => 0) 69)).setCells_ne (b' := w2.heap.size) (by omega) (vrC (rdAt l l.length) (wrAt l l.length)).toList 0
  replace hB := (hB.alloc (.cells (vrC (fun _ _ => 0) fun _ _ => 0) 69)).setCells_ne (b' := w2.heap.size) (by omega) (vrC (rdAt l l.length) (wrAt l l.length)).toList 0
  replace hb3 := Below.setCells' hb3 (show w.heap.size ≤ w2.heap.size by omega) (vrC (rdAt l l.length) (wrAt l l.length)).toList 0
  have hV : Has _ w2.heap.size (vrC (rdAt l l.length) (wrAt l l.length)) 69 := hN.setAll
  clear hN
  generalize (w2.alloc (.cells (vrC (fun _ _ => 0) fun _ _ => 0) 69)).setCells w2.heap.size 0 (vrC (rdAt l l.length) (wrAt l l.length)).toList = w3 at *
  obtain ⟨a0, a1, a2, a3, a4, a5⟩ := hA.clk
  obtain ⟨b0, b1, b2, b3, b4, b5⟩ := hB.clk
  obtain ⟨c0, c1, c2, c3, c4, c5⟩ := hA.clkFree
  obtain ⟨d0, d1, d2, d3, d4, d5⟩ := hB.clkFree
  have hVd := hV.drew
  have n1 : w2.heap.size ≠ w.heap.size := by omega
  have n2 : w2.heap.size ≠ w.heap.size + 1 := by omega
  clear hzv he e2 h
  go_region_held3 (fun W => Has W w2.heap.size (vrC (rdAt l l.length) (wrAt l l.length)) 69 ∧ Six6 W w2.heap.size (x * 12) (rdAt l l.length x) ∧ Six6 W w2.heap.size (x * 12 + 6) (wrAt l l.length x))
    (first | with_reducible exact six_keep hx hVd | with_reducible exact six_keep hx (hV.set6_ne n1 (rdAt l l.length x)).drew | with_reducible exact six_keep hx ((hV.set6_ne n1 (rdAt l l.length x)).set6_ne n2 (wrAt l l.length x)).drew)
    (fail)
  all_goals
    clear a0 a1 a2 a3 a4 a5 b0 b1 b2 b3 b4 b5 c0 c1 c2 c3 c4 c5 d0 d1 d2 d3 d4 d5 hVd
    go_wp2
    refine end_two (w := w) (N := w.heap.size) (A := w.heap.size) (B := w.heap.size + 1) (f := rdAt l l.length x) (g := wrAt l l.length x) ?_ ?_ ?_ ?_
    · exact ((hA.set6 (rdAt l l.length x)).set6_ne (by omega) (wrAt l l.length x)).drew
    · exact ((hB.set6_ne (by omega) (rdAt l l.length x)).set6 (wrAt l l.length x)).drew
    · exact (below_set6 (below_set6 hb3 (Nat.le_refl _) (rdAt l l.length x)) (by omega) (wrAt l l.length x)).drew
    intro W jA jB jb
    obtain ⟨a0, a1, a2, a3, a4, a5⟩ := jA.clk
    obtain ⟨b0, b1, b2, b3, b4, b5⟩ := jB.clk
    exact bodyPost_ret (v := .tuple #[clkV (rdAt l l.length x), clkV (wrAt l l.length x), .int .i64 0]) (by simp [results, Try.results25, go_sem, a0, a1, a2, a3, a4, a5, b0, b1, b2, b3, b4, b5]) rfl ⟨rfl, jb⟩
end Go.Proofs.Ytgliichceildgaa
