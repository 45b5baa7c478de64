/- Joined texts. -/
import Derived.Test.YtfjbnhacfficnaaGreatDoorChecked
import Derived.Test.YtfjbnhacfficnaaGreatDoorZA
import Derived.ChangeKeysEq
import Derived.Deep.RegionWith
import Derived.Deep.RegionHeld3

/- Contracts of package clock: merge's helpers. -/
namespace Go.Proofs.YtfjbnhacfficnaaGreatDoor
open Go.RowKit

set_option maxHeartbeats 400000 in
theorem greater_any (x y : Int) (b o c : Nat) (w : World) (hx : w.cell? ⟨b, o, none⟩ = some (.int .i64 x)) (hy : w.cell? ⟨b, o + 1, none⟩ = some (.int .i64 y)) :
    Calls Tryz.prog 122 #[.slice (some ⟨b, o, none⟩) 2 c] w fun e w' => e = .returned (.int .i64 (max x y)) ∧ Quiet w w' := by
  go_enter Tryz.func122, Tryz.ntmps122
  go_wp2
  go_quiet (fail)
  go_wp2
  all_goals
    go_ret
    exact ⟨ret_int (by omega), nq, rfl⟩

/-- What merge's loop holds: the first k places are joined. -/
def upTo (p : Int → Int → Int) (f g : Nat → Int) (k : Nat) (i : Nat) : Int := if i < k then p (f i) (g i) else f i

set_option maxHeartbeats 1000000 in
theorem merge_max (f g : Nat → Int) (w : World) :
    Calls Tryz.prog 121 #[clkV f, clkV g, .func (.func 122) #[] #[]] w fun e w' => e = .returned (clkV fun i => max (f i) (g i)) ∧ Below w.heap.size w w' := by
  go_enter Tryz.func121, Tryz.ntmps121
  go_wp2
  go_loopw [7, 8, 10] (fun _ _ i wr => ∃ k : Nat, k ≤ 6 ∧ i = .int .i64 k ∧ w.heap.size + 2 < wr.heap.size ∧ Has wr w.heap.size (clkC (upTo max f g k)) 87 ∧ Has wr (w.heap.size + 2) (clkC fun _ => 0) 87 ∧ Below w.heap.size w wr) (fun _ _ i _ => 6 - (intOf i).toNat)
  case atStart => exact ⟨0, by omega, rfl, by simp, ((Has.new _ _ _).alloc _).alloc _, (Has.new ((w.alloc _).alloc _) _ _).at (by simp), (((Below.refl _ _).alloc (Nat.le_refl _) _).alloc (by simp) _).alloc (by simp; omega) _⟩
  case round =>
    obtain ⟨k, hk, rfl, hsz, h0, h2, hb⟩ := hrel
    have fz := h0.free
    have gi : ∀ j : Nat, j < 6 → ∀ w, (Instr.index 87 (clkV g) (.int .i64 j)).run Tryz.prog w = .ok (.int .i64 (g j)) w := by
      intro j hj w; revert j; apply idx6 <;> kernel_rfl
    by_cases hlt : k < 6
    · have c1 := h0.cell (clkC_get _ k hlt)
      have f1 := fz k
      have g1 := gi k hlt
      clear gi fz
      have k0 := h0.alloc (.cells #[.int .i64 (upTo max f g k k), .int .i64 (g k)] 3)
      have k2 := h2.alloc (.cells #[.int .i64 (upTo max f g k k), .int .i64 (g k)] 3)
      have kb := hb.alloc (by omega) (.cells #[.int .i64 (upTo max f g k k), .int .i64 (g k)] 3)
      have ks := World.size_alloc wr (.cells #[.int .i64 (upTo max f g k k), .int .i64 (g k)] 3)
      go_wp2_with fail
      refine (greater_any _ _ _ _ _ _ (by simp; rfl) (by simp; rfl)).mono ?_
      rintro e w' ⟨rfl, q⟩
      have l0 := k0.quiet q
      have l2 := k2.quiet q
      have lb := kb.trans (q.below _)
      have ls := q.size
      have c2 := l0.cell (clkC_get _ k hlt)
      have f2 := l0.free k
      clear q k0 k2 kb h0 h2 hb c1 f1 g1
      go_wp2
      go_roundw
      case rel => exact ⟨k + 1, by omega, by go_num, by simp; omega, (l0.setCell _ _).to (by rw [clkC_set _ k hlt]; exact clkC_congr fun i hi => by simp only [upTo]; split <;> split <;> split <;> (first | rfl | omega | (subst_vars; rfl) | skip)), l2.setCell_ne (by simp) _, lb.setCell (by simp) _⟩
      case measure => simp [intOf]; omega
    · obtain rfl : k = 6 := by omega
      obtain ⟨c0, c1, c2, c3, c4, c5⟩ := h0.clk
      have h2' : Has wr (w.heap.size + 1 + 1) (clkC fun _ => 0) 87 := h2
      obtain ⟨d0, d1, d2, d3, d4, d5⟩ := h2'.clk
      obtain ⟨e0, e1, e2, e3, e4, e5⟩ := h2'.clkFree
      clear gi fz
      go_wp2
      refine end_has (b := w.heap.size + 1 + 1) (B := w.heap.size) (w := w) (cs := clkC (upTo max f g 6)) (t := 87) ?_ ?_ ?_
      · exact ((((((h2'.setCell _ _).setCell _ _).setCell _ _).setCell _ _).setCell _ _).setCell _ _).to (by simp [clkC])
      · exact (((((hb.setCell (by simp; omega) _).setCell (by simp; omega) _).setCell (by simp; omega) _).setCell (by simp; omega) _).setCell (by simp; omega) _).setCell (by simp; omega) _
      clear d0 d1 d2 d3 d4 d5 e0 e1 e2 e3 e4 e5 c0 c1 c2 c3 c4 c5
      intro W hW hB
      obtain ⟨c0, c1, c2, c3, c4, c5⟩ := hW.clk
      exact bodyPost_ret (v := clkV (upTo max f g 6)) (by simp [results, Tryz.results121, go_sem, c0, c1, c2, c3, c4, c5]) rfl ⟨congrArg Ending.returned (clkV_congr fun i hi => by simp [upTo, hi]), hB⟩

end Go.Proofs.YtfjbnhacfficnaaGreatDoor

/- Equality of clocks (arrays of six ints) as the model runs it. -/
namespace Go.Proofs.YtfjbnhacfficnaaGreatDoor
open Go.RowKit

theorem run_part_int {P : Program} (w : World) {e : TypeId} (he : P.underlying e = some (.int .i64)) (xs : Array Value) (j : Nat) (v : Value) (hv : xs[j]? = some v) :
    (part e xs j).run P w = .ok v w := run_part_plain w (by simp [Program.plainKey, he]) hv

theorem run_eqItems_clk {P : Program} (d : Nat) {e : TypeId} (he : P.underlying e = some (.int .i64)) (f g : Nat → Int) (js : List Nat) (hj : ∀ j ∈ js, j < 6) (w : World) :
    (Op.eqItems (d + 1) e 1 (clkC f) (clkC g) js).run P w = .ok (js.all fun j => f j == g j) w := by
  induction js with
  | nil => simp [Op.eqItems]
  | cons j js ih =>
    have h6 := hj j (by simp)
    have h1 := run_part_int w he (clkC f) j _ (clkC_get f j h6)
    have h2 := run_part_int w he (clkC g) j _ (clkC_get g j h6)
    have h3 := run_equalIn_int (P := P) w d e .i64 .i64 (f j) (g j) he
    simp only [Op.eqItems, Sem.run_bind, Nat.mul_one, h1, h2, h3, Result.andThen_ok, List.all_cons]
    cases f j == g j
    · simp
    · simpa using ih fun k hk => hj k (by simp [hk])

theorem run_equalIn_clk {P : Program} {t e : TypeId} {i : TypeInfo} (ht : P.underlying t = some (.array 6 e)) (he : P.underlying e = some (.int .i64)) (hi : P.info? e = some i) (hc : P.cellsOf e = 1)
    (d : Nat) (f g : Nat → Int) (w : World) : (Op.equalIn (d + 2) t (clkV f) (clkV g)).run P w = .ok (ceq f g) w := by
  rw [run_equalIn_array w (d + 1) _ _ ht hi, hc, run_eqItems_clk d he f g _ (by simp)]
  congr 1
  rw [Bool.eq_iff_iff, ceq_iff]
  simp

theorem run_eql_clk {P : Program} {t e : TypeId} {i : TypeInfo} (ht : P.underlying t = some (.array 6 e)) (he : P.underlying e = some (.int .i64)) (hi : P.info? e = some i) (hc : P.cellsOf e = 1)
    (f g : Nat → Int) (w : World) : (binOp .eql t (clkV f) (clkV g)).run P w = .ok (.bool (ceq f g)) w := by
  rw [run_eql_struct, run_equalIn_clk ht he hi hc 9998]; rfl
theorem run_neq_clk {P : Program} {t e : TypeId} {i : TypeInfo} (ht : P.underlying t = some (.array 6 e)) (he : P.underlying e = some (.int .i64)) (hi : P.info? e = some i) (hc : P.cellsOf e = 1)
    (f g : Nat → Int) (w : World) : (binOp .neq t (clkV f) (clkV g)).run P w = .ok (.bool (!ceq f g)) w := by
  rw [run_neq_struct, run_equalIn_clk ht he hi hc 9998]; rfl
end Go.Proofs.YtfjbnhacfficnaaGreatDoor

/- Contracts of package clock: Join, Meet, Within, Compare, Tick, Of, Seen. -/
namespace Go.Proofs.YtfjbnhacfficnaaGreatDoor
open Go.RowKit

theorem clk_info : ∃ i, Tryz.prog.info? 3 = some i := info_of_underlying Tryz.underlying3
theorem clk_cells : Tryz.prog.cellsOf 3 = 1 := by kernel_rfl
theorem eql_clk (f g : Nat → Int) (w : World) : (binOp .eql 87 (clkV f) (clkV g)).run Tryz.prog w = .ok (.bool (ceq f g)) w := by
  obtain ⟨i, hi⟩ := clk_info
  exact run_eql_clk Tryz.underlying87 Tryz.underlying3 hi clk_cells f g w
theorem neq_clk (f g : Nat → Int) (w : World) : (binOp .neq 87 (clkV f) (clkV g)).run Tryz.prog w = .ok (.bool (!ceq f g)) w := by
  obtain ⟨i, hi⟩ := clk_info
  exact run_neq_clk Tryz.underlying87 Tryz.underlying3 hi clk_cells f g w

set_option maxHeartbeats 400000 in
theorem join_any (f g : Nat → Int) (w : World) :
    Calls Tryz.prog 98 #[clkV f, clkV g] w fun e w' => e = .returned (clkV (cmax f g)) ∧ Below w.heap.size w w' := by
  go_enter Tryz.func98, Tryz.ntmps98
  go_wp2_with fail
  have h2 := (Has.new ((w.alloc (.cells (clkC f) 87)).alloc (.cells (clkC g) 87)) (clkC fun _ => 0) 87).at (c := w.heap.size + 1 + 1) (by simp)
  have hb : Below w.heap.size w (((w.alloc (.cells (clkC f) 87)).alloc (.cells (clkC g) 87)).alloc (.cells (clkC fun _ => 0) 87)) := (((Below.refl _ _).alloc (by simp) _).alloc (by simp) _).alloc (by simp; omega) _
  generalize ((w.alloc (.cells (clkC f) 87)).alloc (.cells (clkC g) 87)).alloc (.cells (clkC fun _ => 0) 87) = w1 at *
  refine (merge_max f g _).mono ?_
  rintro e w' ⟨rfl, hk⟩
  have h2' := h2.below hk h2.lt
  have hb' := hb.trans (hk.mono hb.size)
  obtain ⟨d0, d1, d2, d3, d4, d5⟩ := h2'.clk
  obtain ⟨e0, e1, e2, e3, e4, e5⟩ := h2'.clkFree
  go_wp2
  clear d0 d1 d2 d3 d4 d5 e0 e1 e2 e3 e4 e5
  refine end_has (b := w.heap.size + 1 + 1) (B := w.heap.size) (w := w) (cs := clkC (cmax f g)) (t := 87) ?_ ?_ ?_
  · exact ((((((h2'.setCell _ _).setCell _ _).setCell _ _).setCell _ _).setCell _ _).setCell _ _).to (by simp [clkC, cmax])
  · exact (((((hb'.setCell (by simp; omega) _).setCell (by simp; omega) _).setCell (by simp; omega) _).setCell (by simp; omega) _).setCell (by simp; omega) _).setCell (by simp; omega) _
  intro W hW hB
  obtain ⟨c0, c1, c2, c3, c4, c5⟩ := hW.clk
  exact bodyPost_ret (v := clkV (cmax f g)) (by simp [results, Tryz.results98, go_sem, c0, c1, c2, c3, c4, c5]) rfl ⟨rfl, hB⟩

/-- The cells of a clock's box. -/
abbrev BoxAt (w : World) (b : Nat) (f : Nat → Int) : Prop :=
  w.cell? ⟨b, 0, none⟩ = some (.int .i64 (f 0)) ∧ w.cell? ⟨b, 1, none⟩ = some (.int .i64 (f 1)) ∧ w.cell? ⟨b, 2, none⟩ = some (.int .i64 (f 2)) ∧
    w.cell? ⟨b, 3, none⟩ = some (.int .i64 (f 3)) ∧ w.cell? ⟨b, 4, none⟩ = some (.int .i64 (f 4)) ∧ w.cell? ⟨b, 5, none⟩ = some (.int .i64 (f 5))

set_option maxHeartbeats 400000 in
theorem within_any (f g : Nat → Int) (w : World) :
    Calls Tryz.prog 114 #[clkV f, clkV g] w fun e w' => e = .returned (.bool (cle f g)) ∧ Below w.heap.size w w' := by
  have heq := eql_clk (cmax f g) g
  go_enter Tryz.func114, Tryz.ntmps114
  go_wp2
  have h0 : Has ((w.alloc (.cells (clkC f) 87)).alloc (.cells (clkC g) 87)) w.heap.size (clkC f) 87 := (Has.new _ _ _).alloc _
  have h1 : Has ((w.alloc (.cells (clkC f) 87)).alloc (.cells (clkC g) 87)) (w.heap.size + 1) (clkC g) 87 := (Has.new (w.alloc _) _ _).at (by simp)
  have hb : Below w.heap.size w ((w.alloc (.cells (clkC f) 87)).alloc (.cells (clkC g) 87)) := ((Below.refl _ _).alloc (by simp) _).alloc (by simp) _
  have hz : w.heap.size + 1 < ((w.alloc (.cells (clkC f) 87)).alloc (.cells (clkC g) 87)).heap.size := by simp
  generalize (w.alloc (.cells (clkC f) 87)).alloc (.cells (clkC g) 87) = w1 at *
  have k0 := h0.clk
  have k1 := h1.clk
  go_region_held3 (fun W => (Has W w.heap.size (clkC f) 87 ∧ Has W (w.heap.size + 1) (clkC g) 87 ∧ Below w.heap.size w W) ∧ BoxAt W w.heap.size f ∧ BoxAt W (w.heap.size + 1) g) (first | exact ⟨⟨h0.drew, h1.drew, hb.drew⟩, h0.clk, h1.clk⟩ | (have j0 := h0.drew.below hk (by simp; omega); have j1 := h1.drew.below hk (by simp; omega); exact ⟨⟨j0, j1, hb.drew.trans (hk.mono (by simp; omega))⟩, j0.clk, j1.clk⟩)) (first | (go_at_call 98; refine (join_any f g _).mono ?_; rintro e w' ⟨rfl, hk⟩))
  go_wp2
  go_ret
  exact ⟨ret_bool (by rw [Bool.eq_iff_iff, ceq_iff, cle_iff]; exact forall_congr' fun i => imp_congr Iff.rfl (by simp only [cmax]; omega)), hb.drew.trans (hk.mono (by simp; omega))⟩
end Go.Proofs.YtfjbnhacfficnaaGreatDoor

/- Contracts of clock.Of, clock.Seen. -/
namespace Go.Proofs.YtfjbnhacfficnaaGreatDoor
open Go.RowKit

theorem isThread_yes (t : Int) (w : World) (h0 : 0 ≤ t) (h6 : t < 6) :
    Calls Tryz.prog 135 #[.int .i64 t] w fun e w' => e = .returned (.bool true) ∧ w = w' := by
  go_enter Tryz.func135, Tryz.ntmps135
  go_wp2
  go_ret
  exact ⟨rfl, rfl⟩
set_option maxHeartbeats 400000 in
theorem of_ok (f : Nat → Int) (k : Nat) (w : World) (h : k < 6) :
    Calls Tryz.prog 115 #[clkV f, .int .i64 k] w fun e w' => e = .returned (.tuple #[.agg #[.int .i64 k, .int .i64 (f k)], .int .i64 0]) ∧ Below w.heap.size w w' := by
  go_enter Tryz.func115, Tryz.ntmps115
  go_wp2_with fail
  have h0 := (Has.new w (clkC f) 87).alloc (.cells #[.int .i64 0, .int .i64 0] 177)
  have h2 := (Has.new (w.alloc (.cells (clkC f) 87)) #[.int .i64 0, .int .i64 0] 177).at (c := w.heap.size + 1) (by simp)
  have hb : Below w.heap.size w ((w.alloc (.cells (clkC f) 87)).alloc (.cells #[.int .i64 0, .int .i64 0] 177)) := ((Below.refl _ _).alloc (by simp) _).alloc (by simp) _
  generalize (w.alloc (.cells (clkC f) 87)).alloc (.cells #[.int .i64 0, .int .i64 0] 177) = w1 at *
  refine (isThread_yes _ _ (by omega) (by omega)).mono ?_
  rintro e w' ⟨rfl, rfl⟩
  have c := h0.cell (clkC_get f k h)
  have d0 : w1.cell? ⟨w.heap.size + 1, 0, none⟩ = some (.int .i64 0) := h2.cell rfl
  have d1 : w1.cell? ⟨w.heap.size + 1, 1, none⟩ = some (.int .i64 0) := h2.cell rfl
  have e0 := h2.free 0
  have e1 := h2.free 1
  go_wp2
  clear d0 d1 e0 e1
  refine end_has (b := w.heap.size + 1) (B := w.heap.size) (w := w) (cs := #[.int .i64 k, .int .i64 (f k)]) (t := 177) ?_ ?_ ?_
  · exact ((h2.setCell _ _).setCell _ _).to (by simp)
  · exact ((hb.setCell (by simp) _).setCell (by simp) _)
  intro W hW hB
  have c0 : W.cell? ⟨w.heap.size + 1, 0, none⟩ = some (.int .i64 k) := hW.cell rfl
  have c1 : W.cell? ⟨w.heap.size + 1, 1, none⟩ = some (.int .i64 (f k)) := hW.cell rfl
  exact bodyPost_ret (v := .tuple #[.agg #[.int .i64 k, .int .i64 (f k)], .int .i64 0]) (by simp [results, Tryz.results115, go_sem, c0, c1]) rfl ⟨rfl, hB⟩

set_option maxHeartbeats 400000 in
theorem seen_ok (n : Int) (f : Nat → Int) (k : Nat) (w : World) (h : k < 6) :
    Calls Tryz.prog 136 #[.agg #[.int .i64 k, .int .i64 n], clkV f] w fun e w' => e = .returned (.bool (decide (n ≤ f k))) ∧ Below w.heap.size w w' := by
  go_enter Tryz.func136, Tryz.ntmps136
  go_wp2
  have h0 := (Has.new w #[.int .i64 k, .int .i64 n] 177).alloc (.cells (clkC f) 87)
  have h2 := (Has.new (w.alloc (.cells #[.int .i64 k, .int .i64 n] 177)) (clkC f) 87).at (c := w.heap.size + 1) (by simp)
  have hb : Below w.heap.size w ((w.alloc (.cells #[.int .i64 k, .int .i64 n] 177)).alloc (.cells (clkC f) 87)) := ((Below.refl _ _).alloc (by simp) _).alloc (by simp) _
  generalize (w.alloc (.cells #[.int .i64 k, .int .i64 n] 177)).alloc (.cells (clkC f) 87) = w1 at *
  have c := h2.cell (clkC_get f k h)
  have d0 : w1.cell? ⟨w.heap.size, 0, none⟩ = some (.int .i64 k) := h0.cell rfl
  have d1 : w1.cell? ⟨w.heap.size, 1, none⟩ = some (.int .i64 n) := h0.cell rfl
  have i0 : (0 : Int) ≤ k := by omega
  have i1 : (k : Int) < 6 := by omega
  go_quiet ((go_at_call 135; exact Calls.quiet_of_same ((isThread_yes _ _ (by omega) (by omega)).mono fun _ _ hh => ⟨hh.1, hh.2.symm⟩)))
  go_wp2
  go_ret
  exact ⟨rfl, below_drewN hb _⟩
end Go.Proofs.YtfjbnhacfficnaaGreatDoor
