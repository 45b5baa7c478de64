/- Contracts of prog.First, of next, of Can: the state stands at the head of a block. -/
import Derived.Test.YthfeakfakjecoaaPgA
import Derived.Test.YthfeakfakjecoaaPgQ
import Derived.OwnWalk
import Derived.Handy
namespace Go.Proofs.Ythfeakfakjecoaa
open Go.RowKit

abbrev psT : TypeId := 77
/-- The cells of a state, and what stands behind them in its block. -/
def psR (s : PS) (R : List Value) : Array Value := psC s ++ R.toArray
theorem psC_size (s : PS) : (psC s).size = 37 := by simp [psC]
theorem psR_nil (s : PS) : psR s [] = psC s := by simp [psR]
theorem psR_get (s : PS) (R : List Value) {i : Nat} (h : i < 37) : (psR s R)[i]? = some (psF s false false i) := by
  unfold psR
  rw [Array.getElem?_append_left (by rw [psC_size]; exact h), psC_get s h]
theorem psR_set (s s' : PS) (R : List Value) {i : Nat} (h : i < 37) {v : Value} (hv : v = psF s' false false i) (hs : ∀ j, j < 37 → j ≠ i → psF s false false j = psF s' false false j) : (psR s R).setIfInBounds i v = psR s' R := by
  have hz : ∀ s, (psR s R).size = 37 + R.length := fun s => by simp [psR, psC_size]
  apply Array.ext_getElem?
  intro j
  rw [Array.getElem?_setIfInBounds]
  by_cases e : i = j
  · subst e
    rw [if_pos rfl, if_pos (by rw [hz]; omega), psR_get s' R h, hv]
  · rw [if_neg e]
    by_cases hj : j < 37
    · rw [psR_get s R hj, psR_get s' R hj, hs j hj (fun h => e h.symm)]
    · unfold psR
      rw [Array.getElem?_append_right (by rw [psC_size]; omega), Array.getElem?_append_right (by rw [psC_size]; omega), psC_size, psC_size]
section
variable {w : World} {b : Nat} {s : PS} {R : List Value} {T : TypeId}
theorem ps_mem (h : Has w b (psR s R) T) {t : Nat} (ht : t < 8) : w.cell? ⟨b, t, none⟩ = some (.int .i64 (s.mem t)) :=
  h.cell (by rw [psR_get s R (by omega)]; simp [psF, ht])
theorem ps_vols (h : Has w b (psR s R) T) {t : Nat} (ht : t < 4) : w.cell? ⟨b, 8 + t, none⟩ = some (.int .i64 (s.vols t)) :=
  h.cell (by rw [psR_get s R (by omega)]; unfold psF; rw [if_neg (by omega), if_pos (by omega), Nat.add_sub_cancel_left])
theorem ps_has (h : Has w b (psR s R) T) {t : Nat} (ht : t < 6) : w.cell? ⟨b, 12 + t, none⟩ = some (.int .i64 (s.has t)) :=
  h.cell (by rw [psR_get s R (by omega)]; unfold psF; rw [if_neg (by omega), if_neg (by omega), if_pos (by omega), Nat.add_sub_cancel_left])
theorem ps_at (h : Has w b (psR s R) T) {t : Nat} (ht : t < 6) : w.cell? ⟨b, 20 + t, none⟩ = some (.int .i64 (s.at_ t : Nat)) :=
  h.cell (by rw [psR_get s R (by omega)]; unfold psF; rw [if_neg (by omega), if_neg (by omega), if_neg (by omega), if_neg (by omega), if_neg (by omega), if_pos (by omega), Nat.add_sub_cancel_left])
theorem ps_begun (h : Has w b (psR s R) T) {t : Nat} (ht : t < 6) : w.cell? ⟨b, 26 + t, none⟩ = some (.bool (s.begun t)) :=
  h.cell (by rw [psR_get s R (by omega)]; unfold psF; rw [if_neg (by omega), if_neg (by omega), if_neg (by omega), if_neg (by omega), if_neg (by omega), if_neg (by omega), if_pos (by omega), Nat.add_sub_cancel_left])
theorem ps_owner (h : Has w b (psR s R) T) {t : Nat} (ht : t < 5) : w.cell? ⟨b, 32 + t, none⟩ = some (.int .i64 (s.owner t)) :=
  h.cell (by rw [psR_get s R (by omega)]; unfold psF; rw [if_neg (by omega), if_neg (by omega), if_neg (by omega), if_neg (by omega), if_neg (by omega), if_neg (by omega), if_neg (by omega), Nat.add_sub_cancel_left])
end

/-- Before anything is set. -/
def PS.zero : PS := ⟨fun _ => 0, fun _ => 0, fun _ => 0, fun _ => 0, fun _ => false, fun _ => 0⟩
theorem psC_one (s : PS) : (psC s).all (·.oneCell') = true := by
  rw [Array.all_eq_true]
  intro i hi
  rw [psC_size] at hi
  have h := psC_get s hi
  rw [Array.getElem?_eq_getElem (by rw [psC_size]; exact hi), Option.some.injEq] at h
  rw [h]
  unfold psF
  repeat' split
  all_goals rfl
theorem Has.setRow {w : World} {b : Nat} {cs ds : Array Value} {t : TypeId} (h : Has w b cs t) : Has (w.setRow b ds) b ds t :=
  ⟨by simp only [World.setRow, Array.getElem?_modify, if_pos, h.out, Option.map_some]⟩
theorem below_setRow {B b : Nat} {a w : World} {cs : Array Value} (h : Below B a w) (hb : B ≤ b) : Below B a (w.setRow b cs) :=
  ⟨h.os, h.tape, h.output, by simpa [World.setRow] using h.size, fun k hk => by
    have : (w.setRow b cs).heap[k]? = w.heap[k]? := by
      simp only [World.setRow, Array.getElem?_modify]
      rw [if_neg (by omega)]
    rw [this]; exact h.block k hk⟩

set_option maxRecDepth 100000 in
set_option maxHeartbeats 4000000 in
theorem firstP_any (w : World) : Calls Try.prog 33 #[] w fun r w' => r = .returned (.agg (psC PS.first)) ∧ Below w.heap.size w w' := by
  obtain ⟨Y, hY⟩ : ∃ Y, psC PS.first = Y := ⟨_, rfl⟩
  rw [hY]
  have HY := Lib.hid hY
  clear hY
  go_enter Try.func33, Try.ntmps33
  go_upto_region 3 with fail
  generalize hW : ((w.alloc _).alloc _) = W
  have hZ : Has W w.heap.size (psC PS.zero) psT := by rw [← hW]; exact ((Has.new w _ _).alloc _).to rfl
  have hF : Has W (w.heap.size + 1) (psC PS.first) psT := by rw [← hW]; exact ((Has.new _ _ _).at (by simp)).to rfl
  have hb : Below w.heap.size w W := by rw [← hW]; exact ((Below.refl _ _).alloc (Nat.le_refl _) _).alloc (by simp) _
  clear hW
  refine wp_region_lit ?_
  refine wpList_load_row rfl psT _ rfl (w.heap.size + 1) rfl psT (psC PS.first) (0, 0) _ hF.out Try.underlying77 rfl ?_ ?_
  · rw [psC_size]; rfl
  refine wpList_store_row rfl psT _ _ rfl w.heap.size (psC PS.first) rfl rfl psT _ hZ.out ?_ ?_ (psC_one _) ?_
  · rw [psC_size]; rfl
  · rw [psC_size, psC_size]
  refine wpList_nil ?_
  have hb2 := below_setRow (cs := psC PS.first) hb (Nat.le_refl _)
  have hR := hZ.setRow (ds := psC PS.first)
  generalize W.setRow w.heap.size (psC PS.first) = W2 at *
  clear hb hZ hF
  have hs : Y.size = 37 := by rw [← HY.out]; exact psC_size _
  rw [HY.out] at hR ⊢
  clear HY
  go_wp2
  refine bodyPost_ret (results_cell_row rfl _ W2 w.heap.size psT Y _ _ rfl hR.out Try.underlying77 rfl ?_) rfl ?_
  · rw [hs]; rfl
  exact ⟨rfl, hb2⟩

/-- An op's cells. -/
structure OpC (w : World) (g q : Nat) (e : Ev) : Prop where
  k : w.cell? ⟨g, q, none⟩ = some (.int .i64 e.k)
  t : w.cell? ⟨g, q + 1, none⟩ = some (.int .i64 e.t)
  o : w.cell? ⟨g, q + 2, none⟩ = some (.int .i64 e.o)
theorem OpC.below {w w' : World} {g q : Nat} {e : Ev} (h : OpC w g q e) (k : Below w.heap.size w w') : OpC w' g q e :=
  ⟨(k.cell (World.block_lt_of_cell? w _ h.k)).trans h.k, (k.cell (World.block_lt_of_cell? w _ h.t)).trans h.t, (k.cell (World.block_lt_of_cell? w _ h.o)).trans h.o⟩
theorem OpC.grown {w w' : World} {g q : Nat} {e : Ev} {row : Option Nat} (h : OpC w g q e) (k : w.grownBy w' row) (hne : some g ≠ row) : OpC w' g q e :=
  ⟨k.cell h.k hne, k.cell h.t hne, k.cell h.o hne⟩
/-- What next answers where there is an op. -/
def NextP (w0 w : World) (e : Ev) (r : Ending) (w' : World) : Prop := ∃ g q, r = .returned (.pointer (some ⟨g, q, none⟩)) ∧ OpC w0 g q e ∧ Below w.heap.size w w'

set_option maxRecDepth 100000 in
set_option maxHeartbeats 8000000 in
theorem next_no (p : List (List Ev)) (s : PS) (t : Int) (a : Option Addr) (c b : Nat) (R : List Value) (T : TypeId) (w : World) (h : PgS w a p) (hs : Has w b (psR s R) T) (h6 : p.length ≤ 6) (hn : nextB p s t = false) :
    Calls Try.prog 56 #[.pointer (some ⟨b, 0, none⟩), .slice a p.length c, .int .i64 t] w fun r w' => r = .returned (.pointer none) ∧ Below w.heap.size w w' := by
  have hI := Below.refl w.heap.size w
  obtain ⟨q1, r1⟩ : ∃ q, decide (t < 0) = q := ⟨_, rfl⟩
  cases q1
  · have t0 : 0 ≤ t := by have := of_decide_eq_false r1; omega
    obtain ⟨n, rfl⟩ : ∃ n : Nat, t = n := ⟨t.toNat, by omega⟩
    by_cases hl : n < p.length
    · have r2 : decide ((n : Int) ≥ p.length) = false := decide_eq_false (by omega)
      have r3 : decide ((p.length : Int) ≤ n) = false := r2
      have r4 : decide (p.length ≤ n) = false := decide_eq_false (by omega)
      have n6 : (n : Int) < 6 := by omega
      have c1 := ps_begun hs (t := n) (by omega)
      have c2 := ps_at hs (t := n) (by omega)
      obtain ⟨pb, o, a1, k1, rfl, d0, hz⟩ := h.at hl
      have hL : plen p n = p[n].length := by unfold plen; simp [hl]
      generalize p[n] = z at *
      simp only [nextB, Int.toNat_natCast, hL] at hn
      rw [decide_eq_true t0, decide_eq_true (show (n : Int) < p.length by omega)] at hn
      generalize s.begun n = q3 at *
      generalize s.at_ n = A at *
      clear hL hz h hs
      cases q3
      · clear hn
        go_enter Try.func56, Try.ntmps56
        go_upto_region 1 with fail
        refine wp_region_quiet_lit (by kernel_rfl) (by kernel_rfl) ?_
        repeat (with_reducible refine wpQuiet_step (fun K hK => ?_); go_simp; with_reducible refine hK _ ?_; clear hK K)
        with_reducible refine wpQuiet_nil ?_
        rintro _ ⟨nq1, rfl⟩
        go_wp2
        go_ret
        exact ⟨rfl, below_drewN hI _⟩
      · have hA : A = z.length := by simpa using hn
        clear hn
        subst hA
        go_enter Try.func56, Try.ntmps56
        go_upto_region 1 with fail
        refine wp_region_quiet_lit (by kernel_rfl) (by kernel_rfl) ?_
        repeat (with_reducible refine wpQuiet_step (fun K hK => ?_); go_simp; with_reducible refine hK _ ?_; clear hK K)
        with_reducible refine wpQuiet_nil ?_
        rintro _ ⟨nq1, rfl⟩
        go_wp2
        go_ret
        exact ⟨rfl, below_drewN hI _⟩
    · have r2 : decide ((n : Int) ≥ p.length) = true := decide_eq_true (by omega)
      have r3 : decide ((p.length : Int) ≤ n) = true := r2
      have r4 : decide (p.length ≤ n) = true := decide_eq_true (by omega)
      clear hn hl h hs
      go_enter Try.func56, Try.ntmps56
      go_upto_region 1 with fail
      refine wp_region_quiet_lit (by kernel_rfl) (by kernel_rfl) ?_
      repeat (with_reducible refine wpQuiet_step (fun K hK => ?_); go_simp; with_reducible refine hK _ ?_; clear hK K)
      with_reducible refine wpQuiet_nil ?_
      rintro _ ⟨nq1, rfl⟩
      go_wp2
      go_ret
      exact ⟨rfl, below_drewN hI _⟩
  · clear hn h hs
    go_enter Try.func56, Try.ntmps56
    go_upto_region 1 with fail
    refine wp_region_quiet_lit (by kernel_rfl) (by kernel_rfl) ?_
    repeat (with_reducible refine wpQuiet_step (fun K hK => ?_); go_simp; with_reducible refine hK _ ?_; clear hK K)
    with_reducible refine wpQuiet_nil ?_
    rintro _ ⟨nq1, rfl⟩
    go_wp2
    go_ret
    exact ⟨rfl, below_drewN hI _⟩
set_option maxRecDepth 100000 in
set_option maxHeartbeats 8000000 in
theorem next_yes (p : List (List Ev)) (s : PS) (n : Nat) (a : Option Addr) (c b : Nat) (R : List Value) (T : TypeId) (w0 w : World) (h : PgS w0 a p) (hb0 : Below w0.heap.size w0 w) (hs : Has w b (psR s R) T) (h6 : p.length ≤ 6) (hl : n < p.length) (hbg : s.begun n = true) (hA : s.at_ n < plen p n) :
    Calls Try.prog 56 #[.pointer (some ⟨b, 0, none⟩), .slice a p.length c, .int .i64 n] w (NextP w0 w (opN p s n)) := by
  have hI := Below.refl w.heap.size w
  have r1 : decide ((n : Int) < 0) = false := decide_eq_false (by omega)
  have r2 : decide ((n : Int) ≥ p.length) = false := decide_eq_false (by omega)
  have r3 : decide ((p.length : Int) ≤ n) = false := r2
  have r4 : decide (p.length ≤ n) = false := decide_eq_false (by omega)
  have n6 : (n : Int) < 6 := by omega
  have n0 : (0 : Int) ≤ n := by omega
  have n1 : (n : Int) < p.length := by omega
  have c1 := ps_begun hs (t := n) (by omega)
  have c2 := ps_at hs (t := n) (by omega)
  rw [show plen p n = p[n].length by unfold plen; simp [hl]] at hA
  have HO := Lib.hid (show opN p s n = p[n][s.at_ n] by unfold opN opA; simp [hl, hA])
  obtain ⟨pb, o, a1, k1, rfl, d0, hz⟩ := h.at hl
  replace d0 := (hb0.cell (World.block_lt_of_cell? _ _ d0)).trans d0
  obtain ⟨g, q, rfl, e0, e1, e2⟩ := hz.at hA
  have HC : OpC w0 g (q + s.at_ n * 3) (opN p s n) := by rw [HO.out]; exact ⟨e0, e1, e2⟩
  clear HO e0 e1 e2 hz h hs hb0
  generalize opN p s n = x at *
  generalize p[n] = z at *
  generalize s.at_ n = A at *
  rw [hbg] at c1
  have A0 : (0 : Int) ≤ A := by omega
  have A1 : (A : Int) < z.length := by omega
  have A2 : ((A : Int) == (z.length : Int)) = false := beq_eq_false_iff_ne.2 (by omega)
  have A3 : (A == z.length) = false := beq_eq_false_iff_ne.2 (by omega)
  have A4 : decide (A = z.length) = false := decide_eq_false (by omega)
  clear hbg
  have HH := Lib.hid HC
  clear HC
  go_enter Try.func56, Try.ntmps56
  go_upto_region 1 with fail
  refine wp_region_quiet_lit (by kernel_rfl) (by kernel_rfl) ?_
  repeat (with_reducible refine wpQuiet_step (fun K hK => ?_); go_simp; with_reducible refine hK _ ?_; clear hK K)
  with_reducible refine wpQuiet_nil ?_
  rintro _ ⟨nq1, rfl⟩
  go_upto_region 3 with fail
  refine wp_region_quiet_lit (by kernel_rfl) (by kernel_rfl) ?_
  repeat (with_reducible refine wpQuiet_step (fun K hK => ?_); go_simp; with_reducible refine hK _ ?_; clear hK K)
  with_reducible refine wpQuiet_nil ?_
  rintro _ ⟨nq3, rfl⟩
  go_wp2
  go_ret
  exact ⟨_, _, rfl, HH.out, below_drewN (below_drewN hI _) _⟩
end Go.Proofs.Ythfeakfakjecoaa
