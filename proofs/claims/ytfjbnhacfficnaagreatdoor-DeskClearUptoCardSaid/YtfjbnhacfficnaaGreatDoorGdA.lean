/- Contracts of package guard: takes, isAccess, access. -/
import Derived.Test.YtfjbnhacfficnaaGreatDoorZEB
import Derived.Test.YtfjbnhacfficnaaGreatDoorZA
import Derived.Test.YtfjbnhacfficnaaGreatDoorZD
import Derived.StillTailTactics
import Derived.IntWalk
import Derived.Deep.DeepCutAuto
namespace Go.Proofs.YtfjbnhacfficnaaGreatDoor
open Go.RowKit

abbrev hdT : TypeId := 219
abbrev hdC (H : Nat → Nat) : Array Value := clkC fun i => ((H i : Nat) : Int)
theorem hdC_set (H : Nat → Nat) {k : Nat} (hk : k < 6) (x : Nat) : (hdC H).setIfInBounds k (.int .i64 (x : Int)) = hdC (upH H k x) := by
  rw [hdC, clkC_set _ k hk]
  refine clkC_congr fun i _ => ?_
  unfold upH
  split <;> rfl
/-- What a call of takes leaves. -/
def TookH (w : World) (B : Nat) (H : Nat → Nat) (r : Ending) (w' : World) : Prop := r = .returned (.tuple #[]) ∧ Has w' B (hdC H) hdT ∧ w.grownBy w' (some B)
theorem isAcc_any (e : Ev) (w : World) : Calls Tryz.prog 120 #[evV e] w fun r w' => r = .returned (.bool (isAcc e)) ∧ Below w.heap.size w w' := by
  obtain ⟨k, t, o⟩ := e
  have hN := Has.new w (evC ⟨k, t, o⟩) 55
  have c0 : (w.alloc (.cells (evC ⟨k, t, o⟩) 55)).cell? ⟨w.heap.size, 0, none⟩ = some (.int .i64 k) := hN.cell rfl
  have hb := (Below.refl w.heap.size w).alloc (Nat.le_refl _) (.cells (evC ⟨k, t, o⟩) 55)
  obtain ⟨q1, r1⟩ : ∃ q, (k == 1) = q := ⟨_, rfl⟩
  obtain ⟨q2, r2⟩ : ∃ q, (k == 2) = q := ⟨_, rfl⟩
  have hA : isAcc ⟨k, t, o⟩ = (q1 || q2) := by unfold isAcc; rw [r1, r2]
  rw [hA]
  clear hA hN
  cases q1
  · go_enter Tryz.func120, Tryz.ntmps120
    go_wp2
    go_ret
    exact ⟨rfl, hb⟩
  · go_enter Tryz.func120, Tryz.ntmps120
    go_wp2
    go_ret
    exact ⟨rfl, hb⟩
set_option maxRecDepth 100000 in
theorem orB : ∀ a : Fin 32, ∀ k : Fin 5, bits .or .i64 (a.val : Int) (wrap64 (2 ^ k.val)) = ((a.val ||| 2 ^ k.val : Nat) : Int) := by decide +kernel
set_option maxRecDepth 100000 in
theorem anB : ∀ a : Fin 32, ∀ k : Fin 5, bits .andNot .i64 (a.val : Int) (wrap64 (2 ^ k.val)) = ((a.val &&& (31 ^^^ 2 ^ k.val) : Nat) : Int) := by decide +kernel
set_option maxRecDepth 100000 in
theorem adB : ∀ a b : Fin 32, bits .and .i64 (a.val : Int) (b.val : Int) = ((a.val &&& b.val : Nat) : Int) := by decide +kernel
set_option maxRecDepth 100000 in
set_option maxHeartbeats 4000000 in
theorem takesH_any (H : Nat → Nat) (e : Ev) (B : Nat) (w : World) (h : Has w B (hdC H) hdT) (hH : ∀ t, H t < 32) (hE : isEv e = true) :
    Calls Tryz.prog 119 #[.pointer (some ⟨B, 0, none⟩), evV e] w (TookH w B (hStep H e)) := by
  obtain ⟨k, t, o⟩ := e
  obtain ⟨t0, t6, o0, oM⟩ := isEv_iff.1 hE
  simp only at t0 t6 o0 oM
  obtain ⟨t, rfl⟩ := Int.eq_ofNat_of_zero_le t0
  obtain ⟨o, rfl⟩ := Int.eq_ofNat_of_zero_le o0
  have hlt := h.lt
  have h1 := h.alloc (.cells (evC ⟨k, t, o⟩) 55)
  have hN := Has.new w (evC ⟨k, t, o⟩) 55
  have hb := (Below.refl w.heap.size w).alloc (Nat.le_refl _) (.cells (evC ⟨k, t, o⟩) 55)
  have ht : t < 6 := by omega
  by_cases k3 : k = 3
  · subst k3
    have hS : hStep H ⟨3, t, o⟩ = upH H t (H t ||| 2 ^ o) := by simp [hStep, bitN]
    have ho : o < 5 := by have e : manyOf 3 = 5 := rfl; omega
    have tab : bits .or .i64 (H t : Int) (wrap64 (2 ^ o)) = ((H t ||| 2 ^ o : Nat) : Int) := orB ⟨H t, hH t⟩ ⟨o, ho⟩
    have hset := hdC_set H ht (H t ||| 2 ^ o)
    rw [hS]
    have cE0 : (w.alloc (.cells (evC ⟨3, t, o⟩) 55)).cell? ⟨w.heap.size, 0, none⟩ = some (.int .i64 3) := hN.cell rfl
    have cE1 : (w.alloc (.cells (evC ⟨3, t, o⟩) 55)).cell? ⟨w.heap.size, 1, none⟩ = some (.int .i64 (t : Int)) := hN.cell rfl
    have cE2 : (w.alloc (.cells (evC ⟨3, t, o⟩) 55)).cell? ⟨w.heap.size, 2, none⟩ = some (.int .i64 (o : Int)) := hN.cell rfl
    have cH := h1.cell (clkC_get (fun i => ((H i : Nat) : Int)) t ht)
    have fH := h1.free t
    have h2 := (h1.setCell t (.int .i64 ((H t ||| 2 ^ o : Nat) : Int))).to hset
    have hg := grown_set (grown_of (b := B) hb) (a := ⟨B, t, none⟩) rfl (.int .i64 ((H t ||| 2 ^ o : Nat) : Int))
    have t1 : (0 : Int) ≤ t := by omega
    have t2 : (t : Int) < 6 := by omega
    have o1 : (0 : Int) ≤ o := by omega
    have o2 : (o : Int) ≤ 64 := by omega
    have TAB := Lib.hid tab
    have hne : B ≠ w.heap.size := by omega
    clear tab hN hb h1 hset hS oM t6 t0 o0 hE h
    go_enter Tryz.func119, Tryz.ntmps119
    go_upto_region 3 with fail
    generalize w.alloc (.cells (evC ⟨3, t, o⟩) 55) = w1 at *
    generalize H t = A at *
    go_still_tail 12, (by kernel_rfl)
    change wpList _ _ _ _ _ w1.drew
    go_wp2
    go_end0
    rw [TAB.out]
    exact ⟨rfl, Has.drew h2, hg.drewG⟩
  · by_cases k4 : k = 4
    · subst k4
      have hS : hStep H ⟨4, t, o⟩ = upH H t (H t &&& (31 ^^^ 2 ^ o)) := by simp [hStep, bitN]
      have ho : o < 5 := by have e : manyOf 4 = 5 := rfl; omega
      have tab : bits .andNot .i64 (H t : Int) (wrap64 (2 ^ o)) = ((H t &&& (31 ^^^ 2 ^ o) : Nat) : Int) := anB ⟨H t, hH t⟩ ⟨o, ho⟩
      have hset := hdC_set H ht (H t &&& (31 ^^^ 2 ^ o))
      rw [hS]
      have cE0 : (w.alloc (.cells (evC ⟨4, t, o⟩) 55)).cell? ⟨w.heap.size, 0, none⟩ = some (.int .i64 4) := hN.cell rfl
      have cE1 : (w.alloc (.cells (evC ⟨4, t, o⟩) 55)).cell? ⟨w.heap.size, 1, none⟩ = some (.int .i64 (t : Int)) := hN.cell rfl
      have cE2 : (w.alloc (.cells (evC ⟨4, t, o⟩) 55)).cell? ⟨w.heap.size, 2, none⟩ = some (.int .i64 (o : Int)) := hN.cell rfl
      have cH := h1.cell (clkC_get (fun i => ((H i : Nat) : Int)) t ht)
      have fH := h1.free t
      have h2 := (h1.setCell t (.int .i64 ((H t &&& (31 ^^^ 2 ^ o) : Nat) : Int))).to hset
      have hg := grown_set (grown_of (b := B) hb) (a := ⟨B, t, none⟩) rfl (.int .i64 ((H t &&& (31 ^^^ 2 ^ o) : Nat) : Int))
      have t1 : (0 : Int) ≤ t := by omega
      have t2 : (t : Int) < 6 := by omega
      have o1 : (0 : Int) ≤ o := by omega
      have o2 : (o : Int) ≤ 64 := by omega
      have TAB := Lib.hid tab
      have hne : B ≠ w.heap.size := by omega
      clear tab hN hb h1 hset hS oM t6 t0 o0 hE h
      go_enter Tryz.func119, Tryz.ntmps119
      go_upto_region 5 with fail
      generalize w.alloc (.cells (evC ⟨4, t, o⟩) 55) = w1 at *
      generalize H t = A at *
      go_still_tail 12, (by kernel_rfl)
      change wpList _ _ _ _ _ w1.drew
      go_wp2
      go_end0
      rw [TAB.out]
      exact ⟨rfl, Has.drew h2, hg.drewG⟩
  
    · have hS : hStep H ⟨k, t, o⟩ = H := by simp [hStep, k3, k4]
      have f3 : (k == 3) = false := beq_eq_false_iff_ne.2 k3
      have f4 : (k == 4) = false := beq_eq_false_iff_ne.2 k4
      have cE0 : (w.alloc (.cells (evC ⟨k, t, o⟩) 55)).cell? ⟨w.heap.size, 0, none⟩ = some (.int .i64 k) := hN.cell rfl
      rw [hS]
      clear hN hS k3 k4 oM
      go_enter Tryz.func119, Tryz.ntmps119
      go_wp2
      go_end0
      exact ⟨rfl, h1, grown_of hb⟩
end Go.Proofs.YtfjbnhacfficnaaGreatDoor
