/- Joined texts. -/
import Derived.Test.YtoohconipcleiaaPgA
import Derived.Test.YtoohconipcleiaaMC
import Derived.OwnWalk
import Derived.Handy
import Derived.StillTailTactics
import Derived.IntWalk

/- Contracts of prog.First, of next, of Can: the state stands at the head of a block. -/
namespace Go.Proofs.Ytoohconipcleiaa
open Go.RowKit

abbrev psT : TypeId := 90
/-- The cells of a state, and what stands behind them in its block. -/
def psR (s : PS) (R : List Value) : Array Value := psC s ++ R.toArray
theorem psC_size (s : PS) : (psC s).size = 37 := by simp [psC]
theorem psR_nil (s : PS) : psR s [] = psC s := by simp [psR]
theorem psR_get (s : PS) (R : List Value) {i : Nat} (h : i < 37) : (psR s R)[i]? = some (psF s false false i) := by
  unfold psR
  rw [Array.getElem?_append_left (by rw [psC_size]; exact h), psC_get s h]
theorem psR_set (s s' : PS) (R : List Value) {i : Nat} (h : i < 37) {v : Value} (hv : v = psF s' false false i) (hs : ∀ j, j < 37 → j ≠ i → psF s false false j = psF s' false false j) : (psR s R).setIfInBounds i v = psR s' R := by
  have hz : ∀ s, (psR s R).size = 37 + R.length := fun s => by simp [psR, psC_size]
  apply Array.ext_getElem?
  intro j
  rw [Array.getElem?_setIfInBounds]
  by_cases e : i = j
  · subst e
    rw [if_pos rfl, if_pos (by rw [hz]; omega), psR_get s' R h, hv]
  · rw [if_neg e]
    by_cases hj : j < 37
    · rw [psR_get s R hj, psR_get s' R hj, hs j hj (fun h => e h.symm)]
    · unfold psR
      rw [Array.getElem?_append_right (by rw [psC_size]; omega), Array.getElem?_append_right (by rw [psC_size]; omega), psC_size, psC_size]
section
variable {w : World} {b : Nat} {s : PS} {R : List Value} {T : TypeId}
theorem ps_mem (h : Has w b (psR s R) T) {t : Nat} (ht : t < 8) : w.cell? ⟨b, t, none⟩ = some (.int .i64 (s.mem t)) :=
  h.cell (by rw [psR_get s R (by omega)]; simp [psF, ht])
theorem ps_vols (h : Has w b (psR s R) T) {t : Nat} (ht : t < 4) : w.cell? ⟨b, 8 + t, none⟩ = some (.int .i64 (s.vols t)) :=
  h.cell (by rw [psR_get s R (by omega)]; unfold psF; rw [if_neg (by omega), if_pos (by omega), Nat.add_sub_cancel_left])
theorem ps_has (h : Has w b (psR s R) T) {t : Nat} (ht : t < 6) : w.cell? ⟨b, 12 + t, none⟩ = some (.int .i64 (s.has t)) :=
  h.cell (by rw [psR_get s R (by omega)]; unfold psF; rw [if_neg (by omega), if_neg (by omega), if_pos (by omega), Nat.add_sub_cancel_left])
theorem ps_at (h : Has w b (psR s R) T) {t : Nat} (ht : t < 6) : w.cell? ⟨b, 20 + t, none⟩ = some (.int .i64 (s.at_ t : Nat)) :=
  h.cell (by rw [psR_get s R (by omega)]; unfold psF; rw [if_neg (by omega), if_neg (by omega), if_neg (by omega), if_neg (by omega), if_neg (by omega), if_pos (by omega), Nat.add_sub_cancel_left])
theorem ps_begun (h : Has w b (psR s R) T) {t : Nat} (ht : t < 6) : w.cell? ⟨b, 26 + t, none⟩ = some (.bool (s.begun t)) :=
  h.cell (by rw [psR_get s R (by omega)]; unfold psF; rw [if_neg (by omega), if_neg (by omega), if_neg (by omega), if_neg (by omega), if_neg (by omega), if_neg (by omega), if_pos (by omega), Nat.add_sub_cancel_left])
theorem ps_owner (h : Has w b (psR s R) T) {t : Nat} (ht : t < 5) : w.cell? ⟨b, 32 + t, none⟩ = some (.int .i64 (s.owner t)) :=
  h.cell (by rw [psR_get s R (by omega)]; unfold psF; rw [if_neg (by omega), if_neg (by omega), if_neg (by omega), if_neg (by omega), if_neg (by omega), if_neg (by omega), if_neg (by omega), Nat.add_sub_cancel_left])
end

/-- Before anything is set. -/
def PS.zero : PS := ⟨fun _ => 0, fun _ => 0, fun _ => 0, fun _ => 0, fun _ => false, fun _ => 0⟩
theorem psC_one (s : PS) : (psC s).all (·.oneCell') = true := by
  rw [Array.all_eq_true]
  intro i hi
  rw [psC_size] at hi
  have h := psC_get s hi
  rw [Array.getElem?_eq_getElem (by rw [psC_size]; exact hi), Option.some.injEq] at h
  rw [h]
  unfold psF
  repeat' split
  all_goals rfl
theorem Has.setRow {w : World} {b : Nat} {cs ds : Array Value} {t : TypeId} (h : Has w b cs t) : Has (w.setRow b ds) b ds t :=
  ⟨by simp only [World.setRow, Array.getElem?_modify, if_pos, h.out, Option.map_some]⟩
theorem below_setRow {B b : Nat} {a w : World} {cs : Array Value} (h : Below B a w) (hb : B ≤ b) : Below B a (w.setRow b cs) :=
  ⟨h.os, h.tape, h.output, by simpa [World.setRow] using h.size, fun k hk => by
    have : (w.setRow b cs).heap[k]? = w.heap[k]? := by
      simp only [World.setRow, Array.getElem?_modify]
      rw [if_neg (by omega)]
    rw [this]; exact h.block k hk⟩

set_option maxRecDepth 100000 in
set_option maxHeartbeats 4000000 in
theorem firstP_any (w : World) : Calls Try.prog 45 #[] w fun r w' => r = .returned (.agg (psC PS.first)) ∧ Below w.heap.size w w' := by
  obtain ⟨Y, hY⟩ : ∃ Y, psC PS.first = Y := ⟨_, rfl⟩
  rw [hY]
  have HY := Lib.hid hY
  clear hY
  go_enter Try.func45, Try.ntmps45
  go_upto_region 3 with fail
  generalize hW : ((w.alloc _).alloc _) = W
  have hZ : Has W w.heap.size (psC PS.zero) psT := by rw [← hW]; exact ((Has.new w _ _).alloc _).to rfl
  have hF : Has W (w.heap.size + 1) (psC PS.first) psT := by rw [← hW]; exact ((Has.new _ _ _).at (by simp)).to rfl
  have hb : Below w.heap.size w W := by rw [← hW]; exact ((Below.refl _ _).alloc (Nat.le_refl _) _).alloc (by simp) _
  clear hW
  refine wp_region_lit ?_
  refine wpList_load_row rfl psT _ rfl (w.heap.size + 1) rfl psT (psC PS.first) (0, 0) _ hF.out Try.underlying90 rfl ?_ ?_
  · rw [psC_size]; rfl
  refine wpList_store_row rfl psT _ _ rfl w.heap.size (psC PS.first) rfl rfl psT _ hZ.out ?_ ?_ (psC_one _) ?_
  · rw [psC_size]; rfl
  · rw [psC_size, psC_size]
  refine wpList_nil ?_
  have hb2 := below_setRow (cs := psC PS.first) hb (Nat.le_refl _)
  have hR := hZ.setRow (ds := psC PS.first)
  generalize W.setRow w.heap.size (psC PS.first) = W2 at *
  clear hb hZ hF
  have hs : Y.size = 37 := by rw [← HY.out]; exact psC_size _
  rw [HY.out] at hR ⊢
  clear HY
  go_wp2
  refine bodyPost_ret (results_cell_row rfl _ W2 w.heap.size psT Y _ _ rfl hR.out Try.underlying90 rfl ?_) rfl ?_
  · rw [hs]; rfl
  exact ⟨rfl, hb2⟩

/-- An op's cells. -/
structure OpC (w : World) (g q : Nat) (e : Ev) : Prop where
  k : w.cell? ⟨g, q, none⟩ = some (.int .i64 e.k)
  t : w.cell? ⟨g, q + 1, none⟩ = some (.int .i64 e.t)
  o : w.cell? ⟨g, q + 2, none⟩ = some (.int .i64 e.o)
theorem OpC.below {w w' : World} {g q : Nat} {e : Ev} (h : OpC w g q e) (k : Below w.heap.size w w') : OpC w' g q e :=
  ⟨(k.cell (World.block_lt_of_cell? w _ h.k)).trans h.k, (k.cell (World.block_lt_of_cell? w _ h.t)).trans h.t, (k.cell (World.block_lt_of_cell? w _ h.o)).trans h.o⟩
theorem OpC.grown {w w' : World} {g q : Nat} {e : Ev} {row : Option Nat} (h : OpC w g q e) (k : w.grownBy w' row) (hne : some g ≠ row) : OpC w' g q e :=
  ⟨k.cell h.k hne, k.cell h.t hne, k.cell h.o hne⟩
/-- What next answers where there is an op. -/
def NextP (w0 w : World) (e : Ev) (r : Ending) (w' : World) : Prop := ∃ g q, r = .returned (.pointer (some ⟨g, q, none⟩)) ∧ OpC w0 g q e ∧ Below w.heap.size w w'

set_option maxRecDepth 100000 in
set_option maxHeartbeats 8000000 in
theorem next_no (p : List (List Ev)) (s : PS) (t : Int) (a : Option Addr) (c b : Nat) (R : List Value) (T : TypeId) (w : World) (h : PgS w a p) (hs : Has w b (psR s R) T) (h6 : p.length ≤ 6) (hn : nextB p s t = false) :
    Calls Try.prog 77 #[.pointer (some ⟨b, 0, none⟩), .slice a p.length c, .int .i64 t] w fun r w' => r = .returned (.pointer none) ∧ Below w.heap.size w w' := by
  have hI := Below.refl w.heap.size w
  obtain ⟨q1, r1⟩ : ∃ q, decide (t < 0) = q := ⟨_, rfl⟩
  cases q1
  · have t0 : 0 ≤ t := by have := of_decide_eq_false r1; omega
    obtain ⟨n, rfl⟩ : ∃ n : Nat, t = n := ⟨t.toNat, by omega⟩
    by_cases hl : n < p.length
    · have r2 : decide ((n : Int) ≥ p.length) = false := decide_eq_false (by omega)
      have r3 : decide ((p.length : Int) ≤ n) = false := r2
      have r4 : decide (p.length ≤ n) = false := decide_eq_false (by omega)
      have n6 : (n : Int) < 6 := by omega
      have c1 := ps_begun hs (t := n) (by omega)
      have c2 := ps_at hs (t := n) (by omega)
      obtain ⟨pb, o, a1, k1, rfl, d0, hz⟩ := h.at hl
      have hL : plen p n = p[n].length := by unfold plen; simp [hl]
      generalize p[n] = z at *
      simp only [nextB, Int.toNat_natCast, hL] at hn
      rw [decide_eq_true t0, decide_eq_true (show (n : Int) < p.length by omega)] at hn
      generalize s.begun n = q3 at *
      generalize s.at_ n = A at *
      clear hL hz h hs
      cases q3
      · clear hn
        go_enter Try.func77, Try.ntmps77
        go_upto_region 1 with fail
        refine wp_region_quiet_lit (by kernel_rfl) (by kernel_rfl) ?_
        repeat (with_reducible refine wpQuiet_step (fun K hK => ?_); go_simp; with_reducible refine hK _ ?_; clear hK K)
        with_reducible refine wpQuiet_nil ?_
        rintro _ ⟨nq1, rfl⟩
        go_wp2
        go_ret
        exact ⟨rfl, below_drewN hI _⟩
      · have hA : A = z.length := by simpa using hn
        clear hn
        subst hA
        go_enter Try.func77, Try.ntmps77
        go_upto_region 1 with fail
        refine wp_region_quiet_lit (by kernel_rfl) (by kernel_rfl) ?_
        repeat (with_reducible refine wpQuiet_step (fun K hK => ?_); go_simp; with_reducible refine hK _ ?_; clear hK K)
        with_reducible refine wpQuiet_nil ?_
        rintro _ ⟨nq1, rfl⟩
        go_wp2
        go_ret
        exact ⟨rfl, below_drewN hI _⟩
    · have r2 : decide ((n : Int) ≥ p.length) = true := decide_eq_true (by omega)
      have r3 : decide ((p.length : Int) ≤ n) = true := r2
      have r4 : decide (p.length ≤ n) = true := decide_eq_true (by omega)
      clear hn hl h hs
      go_enter Try.func77, Try.ntmps77
      go_upto_region 1 with fail
      refine wp_region_quiet_lit (by kernel_rfl) (by kernel_rfl) ?_
      repeat (with_reducible refine wpQuiet_step (fun K hK => ?_); go_simp; with_reducible refine hK _ ?_; clear hK K)
      with_reducible refine wpQuiet_nil ?_
      rintro _ ⟨nq1, rfl⟩
      go_wp2
      go_ret
      exact ⟨rfl, below_drewN hI _⟩
  · clear hn h hs
    go_enter Try.func77, Try.ntmps77
    go_upto_region 1 with fail
    refine wp_region_quiet_lit (by kernel_rfl) (by kernel_rfl) ?_
    repeat (with_reducible refine wpQuiet_step (fun K hK => ?_); go_simp; with_reducible refine hK _ ?_; clear hK K)
    with_reducible refine wpQuiet_nil ?_
    rintro _ ⟨nq1, rfl⟩
    go_wp2
    go_ret
    exact ⟨rfl, below_drewN hI _⟩
set_option maxRecDepth 100000 in
set_option maxHeartbeats 8000000 in
theorem next_yes (p : List (List Ev)) (s : PS) (n : Nat) (a : Option Addr) (c b : Nat) (R : List Value) (T : TypeId) (w0 w : World) (h : PgS w0 a p) (hb0 : Below w0.heap.size w0 w) (hs : Has w b (psR s R) T) (h6 : p.length ≤ 6) (hl : n < p.length) (hbg : s.begun n = true) (hA : s.at_ n < plen p n) :
    Calls Try.prog 77 #[.pointer (some ⟨b, 0, none⟩), .slice a p.length c, .int .i64 n] w (NextP w0 w (opN p s n)) := by
  have hI := Below.refl w.heap.size w
  have r1 : decide ((n : Int) < 0) = false := decide_eq_false (by omega)
  have r2 : decide ((n : Int) ≥ p.length) = false := decide_eq_false (by omega)
  have r3 : decide ((p.length : Int) ≤ n) = false := r2
  have r4 : decide (p.length ≤ n) = false := decide_eq_false (by omega)
  have n6 : (n : Int) < 6 := by omega
  have n0 : (0 : Int) ≤ n := by omega
  have n1 : (n : Int) < p.length := by omega
  have c1 := ps_begun hs (t := n) (by omega)
  have c2 := ps_at hs (t := n) (by omega)
  rw [show plen p n = p[n].length by unfold plen; simp [hl]] at hA
  have HO := Lib.hid (show opN p s n = p[n][s.at_ n] by unfold opN opA; simp [hl, hA])
  obtain ⟨pb, o, a1, k1, rfl, d0, hz⟩ := h.at hl
  replace d0 := (hb0.cell (World.block_lt_of_cell? _ _ d0)).trans d0
  obtain ⟨g, q, rfl, e0, e1, e2⟩ := hz.at hA
  have HC : OpC w0 g (q + s.at_ n * 3) (opN p s n) := by rw [HO.out]; exact ⟨e0, e1, e2⟩
  clear HO e0 e1 e2 hz h hs hb0
  generalize opN p s n = x at *
  generalize p[n] = z at *
  generalize s.at_ n = A at *
  rw [hbg] at c1
  have A0 : (0 : Int) ≤ A := by omega
  have A1 : (A : Int) < z.length := by omega
  have A2 : ((A : Int) == (z.length : Int)) = false := beq_eq_false_iff_ne.2 (by omega)
  have A3 : (A == z.length) = false := beq_eq_false_iff_ne.2 (by omega)
  have A4 : decide (A = z.length) = false := decide_eq_false (by omega)
  clear hbg
  have HH := Lib.hid HC
  clear HC
  go_enter Try.func77, Try.ntmps77
  go_upto_region 1 with fail
  refine wp_region_quiet_lit (by kernel_rfl) (by kernel_rfl) ?_
  repeat (with_reducible refine wpQuiet_step (fun K hK => ?_); go_simp; with_reducible refine hK _ ?_; clear hK K)
  with_reducible refine wpQuiet_nil ?_
  rintro _ ⟨nq1, rfl⟩
  go_upto_region 3 with fail
  refine wp_region_quiet_lit (by kernel_rfl) (by kernel_rfl) ?_
  repeat (with_reducible refine wpQuiet_step (fun K hK => ?_); go_simp; with_reducible refine hK _ ?_; clear hK K)
  with_reducible refine wpQuiet_nil ?_
  rintro _ ⟨nq3, rfl⟩
  go_wp2
  go_ret
  exact ⟨_, _, rfl, HH.out, below_drewN (below_drewN hI _) _⟩
end Go.Proofs.Ytoohconipcleiaa

/- A cell of a state, set. No walk. -/
namespace Go.Proofs.Ytoohconipcleiaa
open Go.RowKit

theorem psF_congr {s s' : PS} {j : Nat} (h1 : j < 8 → s.mem j = s'.mem j) (h2 : 8 ≤ j → j < 12 → s.vols (j - 8) = s'.vols (j - 8)) (h3 : 12 ≤ j → j < 18 → s.has (j - 12) = s'.has (j - 12))
    (h4 : 20 ≤ j → j < 26 → s.at_ (j - 20) = s'.at_ (j - 20)) (h5 : 26 ≤ j → j < 32 → s.begun (j - 26) = s'.begun (j - 26)) (h6 : 32 ≤ j → s.owner (j - 32) = s'.owner (j - 32)) : psF s false false j = psF s' false false j := by
  unfold psF
  by_cases c1 : j < 8
  · rw [if_pos c1, if_pos c1, h1 c1]
  rw [if_neg c1, if_neg c1]
  by_cases c2 : j < 12
  · rw [if_pos c2, if_pos c2, h2 (by omega) c2]
  rw [if_neg c2, if_neg c2]
  by_cases c3 : j < 18
  · rw [if_pos c3, if_pos c3, h3 (by omega) c3]
  rw [if_neg c3, if_neg c3]
  by_cases c4 : j = 18
  · rw [if_pos c4, if_pos c4]
  rw [if_neg c4, if_neg c4]
  by_cases c5 : j = 19
  · rw [if_pos c5, if_pos c5]
  rw [if_neg c5, if_neg c5]
  by_cases c6 : j < 26
  · rw [if_pos c6, if_pos c6, h4 (by omega) c6]
  rw [if_neg c6, if_neg c6]
  by_cases c7 : j < 32
  · rw [if_pos c7, if_pos c7, h5 (by omega) c7]
  rw [if_neg c7, if_neg c7, h6 (by omega)]
theorem psR_tick (s : PS) (R : List Value) {n : Nat} (h : n < 6) : (psR s R).setIfInBounds (20 + n) (.int .i64 ((s.at_ n : Int) + 1)) = psR (tick s n) R := by
  refine psR_set s _ R (by omega) ?_ (fun j hj hne => psF_congr (fun _ => rfl) (fun _ _ => rfl) (fun _ _ => rfl) (fun _ _ => (by show _ = upN s.at_ n (s.at_ n + 1) (j - 20); unfold upN; rw [if_neg (by omega)])) (fun _ _ => rfl) (fun _ => rfl))
  unfold psF
  rw [if_neg (by omega), if_neg (by omega), if_neg (by omega), if_neg (by omega), if_neg (by omega), if_pos (by omega), Nat.add_sub_cancel_left]
  simp [tick, upN]
theorem psR_has (s : PS) (R : List Value) {n : Nat} (h : n < 6) (x : Int) : (psR s R).setIfInBounds (12 + n) (.int .i64 x) = psR { s with has := upZ s.has n x } R := by
  refine psR_set s _ R (by omega) ?_ (fun j hj hne => psF_congr (fun _ => rfl) (fun _ _ => rfl) (fun _ _ => (by show _ = upZ s.has n x (j - 12); unfold upZ; rw [if_neg (by omega)])) (fun _ _ => rfl) (fun _ _ => rfl) (fun _ => rfl))
  unfold psF
  rw [if_neg (by omega), if_neg (by omega), if_pos (by omega), Nat.add_sub_cancel_left]
  simp [upZ]
theorem psR_mem (s : PS) (R : List Value) {n : Nat} (h : n < 8) (x : Int) : (psR s R).setIfInBounds n (.int .i64 x) = psR { s with mem := upZ s.mem n x } R := by
  refine psR_set s _ R (by omega) ?_ (fun j hj hne => psF_congr (fun _ => (by show _ = upZ s.mem n x j; unfold upZ; rw [if_neg (by omega)])) (fun _ _ => rfl) (fun _ _ => rfl) (fun _ _ => rfl) (fun _ _ => rfl) (fun _ => rfl))
  unfold psF
  rw [if_pos (by omega)]
  simp [upZ]
theorem psR_vols (s : PS) (R : List Value) {n : Nat} (h : n < 4) (x : Int) : (psR s R).setIfInBounds (8 + n) (.int .i64 x) = psR { s with vols := upZ s.vols n x } R := by
  refine psR_set s _ R (by omega) ?_ (fun j hj hne => psF_congr (fun _ => rfl) (fun _ _ => (by show _ = upZ s.vols n x (j - 8); unfold upZ; rw [if_neg (by omega)])) (fun _ _ => rfl) (fun _ _ => rfl) (fun _ _ => rfl) (fun _ => rfl))
  unfold psF
  rw [if_neg (by omega), if_pos (by omega), Nat.add_sub_cancel_left]
  simp [upZ]
theorem psR_owner (s : PS) (R : List Value) {n : Nat} (h : n < 5) (x : Int) : (psR s R).setIfInBounds (32 + n) (.int .i64 x) = psR { s with owner := upZ s.owner n x } R := by
  refine psR_set s _ R (by omega) ?_ (fun j hj hne => psF_congr (fun _ => rfl) (fun _ _ => rfl) (fun _ _ => rfl) (fun _ _ => rfl) (fun _ _ => rfl) (fun _ => (by show _ = upZ s.owner n x (j - 32); unfold upZ; rw [if_neg (by omega)])))
  unfold psF
  rw [if_neg (by omega), if_neg (by omega), if_neg (by omega), if_neg (by omega), if_neg (by omega), if_neg (by omega), if_neg (by omega), Nat.add_sub_cancel_left]
  simp [upZ]
theorem psR_begun (s : PS) (R : List Value) {n : Nat} (h : n < 6) : (psR s R).setIfInBounds (26 + n) (.bool true) = psR { s with begun := upT s.begun n } R := by
  refine psR_set s _ R (by omega) ?_ (fun j hj hne => psF_congr (fun _ => rfl) (fun _ _ => rfl) (fun _ _ => rfl) (fun _ _ => rfl) (fun _ _ => (by show _ = upT s.begun n (j - 26); unfold upT; rw [if_neg (by omega)])) (fun _ => rfl))
  unfold psF
  rw [if_neg (by omega), if_neg (by omega), if_neg (by omega), if_neg (by omega), if_neg (by omega), if_neg (by omega), if_pos (by omega), Nat.add_sub_cancel_left]
  simp [upT]
end Go.Proofs.Ytoohconipcleiaa

/- Contract of Step: what it tells (a closure); what it leaves. -/
namespace Go.Proofs.Ytoohconipcleiaa
open Go.RowKit

set_option maxRecDepth 100000 in
set_option maxHeartbeats 8000000 in
theorem tells_any (k : Int) (n : Nat) (B1 B2 g q : Nat) (x : Ev) (w : World) (h1 : w.cell? ⟨B1, 0, none⟩ = some (.int .i64 n)) (h2 : w.cell? ⟨B2, 0, none⟩ = some (.pointer (some ⟨g, q, none⟩))) (hC : OpC w g q x) :
    Calls Try.prog 78 #[.int .i64 k, .pointer (some ⟨B1, 0, none⟩), .pointer (some ⟨B2, 0, none⟩)] w fun r w' => r = .returned (.tuple #[evV ⟨k, n, x.t⟩, .bool true]) ∧ Below w.heap.size w w' := by
  have hb := (Below.refl w.heap.size w).alloc (Nat.le_refl _) (.cells (evC ⟨0, 0, 0⟩) 36)
  have a1 : (w.alloc (.cells (evC ⟨0, 0, 0⟩) 36)).cell? ⟨B1, 0, none⟩ = some (.int .i64 n) := (hb.cell (World.block_lt_of_cell? w _ h1)).trans h1
  have a2 : (w.alloc (.cells (evC ⟨0, 0, 0⟩) 36)).cell? ⟨B2, 0, none⟩ = some (.pointer (some ⟨g, q, none⟩)) := (hb.cell (World.block_lt_of_cell? w _ h2)).trans h2
  obtain ⟨_, a3, _⟩ := hC.below hb
  have hN := Has.new w (evC ⟨0, 0, 0⟩) 36
  clear h1 h2 hC
  go_enter Try.func78, Try.ntmps78
  go_upto_region 1 with fail
  generalize w.alloc (.cells (evC ⟨0, 0, 0⟩) 36) = w1 at *
  obtain ⟨c0, c1, c2⟩ : w1.cell? ⟨w.heap.size, 0, none⟩ = some (.int .i64 0) ∧ w1.cell? ⟨w.heap.size, 1, none⟩ = some (.int .i64 0) ∧ w1.cell? ⟨w.heap.size, 2, none⟩ = some (.int .i64 0) := ⟨hN.cell rfl, hN.cell rfl, hN.cell rfl⟩
  obtain ⟨f0, f1, f2⟩ : w1.frozen? ⟨w.heap.size, 0, none⟩ = false ∧ w1.frozen? ⟨w.heap.size, 1, none⟩ = false ∧ w1.frozen? ⟨w.heap.size, 2, none⟩ = false := ⟨hN.free _, hN.free _, hN.free _⟩
  clear hN
  go_still_tail 7, (by kernel_rfl)
  change wpList _ _ _ _ _ w1.drew
  go_wp2
  refine bodyPost_ret (v := .tuple #[evV ⟨k, n, x.t⟩, .bool true]) (by simp [results, Try.results78, go_sem, *]) rfl ?_
  exact ⟨rfl, (((hb.setCell (p := ⟨w.heap.size, 0, none⟩) (Nat.le_refl _) _).setCell (p := ⟨w.heap.size, 1, none⟩) (Nat.le_refl _) _).setCell (p := ⟨w.heap.size, 2, none⟩) (Nat.le_refl _) _).drew⟩

/-- What Step leaves. -/
def StepP (w : World) (b : Nat) (T : TypeId) (R : List Value) (q : PS × Option Ev) (r : Ending) (w' : World) : Prop :=
  r = .returned (.tuple #[evV (q.2.getD ⟨0, 0, 0⟩), .bool q.2.isSome]) ∧ Has w' b (psR q.1 R) T ∧ w.grownBy w' (some b)
/-- In the midst of Step. -/
structure Mid (w W : World) (b H B2 g q n : Nat) (x : Ev) (s : PS) (R : List Value) (T : TypeId) : Prop where
  st : Has W b (psR s R) T
  box : W.cell? ⟨H, 0, none⟩ = some (.int .i64 n)
  res : Has W (H + 1) (evC ⟨0, 0, 0⟩) 36
  ptr : W.cell? ⟨B2, 0, none⟩ = some (.pointer (some ⟨g, q, none⟩))
  op : OpC W g q x
  grown : w.grownBy W (some b)
theorem Mid.below {w W W' : World} {b H B2 g q n : Nat} {x : Ev} {s : PS} {R : List Value} {T : TypeId} (h : Mid w W b H B2 g q n x s R T) (k : Below W.heap.size W W') : Mid w W' b H B2 g q n x s R T :=
  ⟨h.st.below k h.st.lt, (k.cell (World.block_lt_of_cell? W _ h.box)).trans h.box, h.res.below k h.res.lt, (k.cell (World.block_lt_of_cell? W _ h.ptr)).trans h.ptr, h.op.below k, h.grown.trans (grown_of k)⟩
theorem Mid.set {w W : World} {b H B2 g q n : Nat} {x : Ev} {s s' : PS} {R : List Value} {T : TypeId} (h : Mid w W b H B2 g q n x s R T) (h1 : H ≠ b) (h2 : H + 1 ≠ b) (h3 : B2 ≠ b) (h4 : g ≠ b) (i : Nat) (v : Value) (hs : (psR s R).setIfInBounds i v = psR s' R) :
    Mid w (W.setCell ⟨b, i, none⟩ v) b H B2 g q n x s' R T := by
  have hg : W.grownBy (W.setCell ⟨b, i, none⟩ v) (some b) := grown_set (World.grownBy.refl W _) rfl v
  exact ⟨(h.st.setCell i v).to hs, hg.cell h.box (by simpa using h1), h.res.setCell_ne (a := ⟨b, i, none⟩) h2 v, hg.cell h.ptr (by simpa using h3), h.op.grown hg (by simpa using h4), grown_set h.grown rfl v⟩
theorem grown_new {w w' : World} {row : Option Nat} (h : w.grownBy w' row) {a : Addr} (ha : w.heap.size ≤ a.block) (v : Value) : w.grownBy (w'.setCell a v) row :=
  ⟨h.os, h.tape, h.output, by simpa [World.setCell] using h.size, fun k hk hne => (Below.heap_setCell _ _ _ _ (by omega)).trans (h.block k hk hne)⟩
theorem Mid.fin {w W : World} {b H B2 g q n : Nat} {x : Ev} {s : PS} {R : List Value} {T : TypeId} (h : Mid w W b H B2 g q n x s R T) (hH : w.heap.size ≤ H + 1) (hne : H + 1 ≠ b) (v0 v1 v2 : Value) :
    Has (((W.setCell ⟨H + 1, 0, none⟩ v0).setCell ⟨H + 1, 1, none⟩ v1).setCell ⟨H + 1, 2, none⟩ v2) b (psR s R) T ∧ w.grownBy (((W.setCell ⟨H + 1, 0, none⟩ v0).setCell ⟨H + 1, 1, none⟩ v1).setCell ⟨H + 1, 2, none⟩ v2) (some b) :=
  ⟨((h.st.setCell_ne (a := ⟨H + 1, 0, none⟩) hne.symm v0).setCell_ne (a := ⟨H + 1, 1, none⟩) hne.symm v1).setCell_ne (a := ⟨H + 1, 2, none⟩) hne.symm v2, grown_new (grown_new (grown_new h.grown (a := ⟨H + 1, 0, none⟩) hH v0) (a := ⟨H + 1, 1, none⟩) hH v1) (a := ⟨H + 1, 2, none⟩) hH v2⟩
end Go.Proofs.Ytoohconipcleiaa
