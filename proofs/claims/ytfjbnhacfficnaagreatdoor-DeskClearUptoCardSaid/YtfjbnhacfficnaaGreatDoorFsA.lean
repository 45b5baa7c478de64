/- The fast detector's reads: an epoch, a clock (interface values): known, also. -/
import Derived.Test.YtfjbnhacfficnaaGreatDoorZG
import Derived.Test.YtfjbnhacfficnaaGreatDoorZEB
import Derived.Test.YtfjbnhacfficnaaGreatDoorZB
import Derived.Test.YtfjbnhacfficnaaGreatDoorAcc
import Derived.Deep.DeepCutAuto
namespace Go.Proofs.YtfjbnhacfficnaaGreatDoor
open Go.RowKit

abbrev epC (t : Nat) (n : Int) : Array Value := #[.int .i64 (t : Int), .int .i64 n]
abbrev epV (t : Nat) (n : Int) : Value := .agg (epC t n)
/-- What a cell holds of the reads. -/
abbrev oneI (t : Nat) (n : Int) : Value := .iface 215 (epV t n)
abbrev manyI (f : Nat → Int) : Value := .iface 237 (clkV f)
set_option maxRecDepth 100000 in
theorem knownOne (t : Nat) (n : Int) (c : Nat → Int) (w : World) (ht : t < 6) :
    Calls Tryz.prog 185 #[epV t n, clkV c] w fun r w' => r = .returned (.bool (decide (n ≤ c t))) ∧ Below w.heap.size w w' := by
  go_enter Tryz.func185, Tryz.ntmps185
  go_wp2_with fail
  refine (seen_ok n c t _ ht).mono ?_
  rintro r w1 ⟨rfl, hk⟩
  go_wp2
  go_ret
  exact ⟨rfl, (((Below.refl w.heap.size w).alloc (Nat.le_refl _) _).alloc (by simp) _).trans (hk.mono (by simp; omega))⟩
set_option maxRecDepth 100000 in
theorem knownMany (f c : Nat → Int) (w : World) :
    Calls Tryz.prog 188 #[clkV f, clkV c] w fun r w' => r = .returned (.bool (cle f c)) ∧ Below w.heap.size w w' := by
  go_enter Tryz.func188, Tryz.ntmps188
  go_wp2_with fail
  refine (within_any f c _).mono ?_
  rintro r w1 ⟨rfl, hk⟩
  go_wp2
  go_ret
  exact ⟨rfl, (((Below.refl w.heap.size w).alloc (Nat.le_refl _) _).alloc (by simp) _).trans (hk.mono (by simp; omega))⟩
set_option maxRecDepth 100000 in
theorem alsoMany (f c : Nat → Int) (t : Nat) (n : Int) (w : World) (ht : t < 6) :
    Calls Tryz.prog 187 #[clkV f, epV t n, clkV c] w fun r w' => r = .returned (manyI (setC f t n)) ∧ Below w.heap.size w w' := by
  have i0 : (0 : Int) ≤ t := by omega
  have i6 : (t : Int) < 6 := by omega
  go_enter Tryz.func187, Tryz.ntmps187
  go_wp2_with fail
  go_ret
  refine ⟨?_, ?_⟩
  · rcases (by omega : t = 0 ∨ t = 1 ∨ t = 2 ∨ t = 3 ∨ t = 4 ∨ t = 5) with rfl | rfl | rfl | rfl | rfl | rfl <;> simp [setC]
  · exact (((Below.refl w.heap.size w).alloc (Nat.le_refl _) _).alloc (by simp) _).alloc (by simp; omega) _
theorem zero_many (w : World) : (zeroValue 237).run Tryz.prog w = .ok (clkV fun _ => 0) w := by kernel_rfl
set_option maxRecDepth 100000 in
set_option maxHeartbeats 1000000 in
theorem alsoOne (t0 : Nat) (n0 : Int) (c : Nat → Int) (t : Nat) (n : Int) (w : World) (ht0 : t0 < 6) (ht : t < 6) :
    Calls Tryz.prog 184 #[epV t0 n0, epV t n, clkV c] w fun r w' => r = .returned (if decide (n0 ≤ c t0) = true then oneI t n else manyI (setC (setC (fun _ => 0) t0 n0) t n)) ∧ Below w.heap.size w w' := by
  have i0 : (0 : Int) ≤ t := by omega
  have i6 : (t : Int) < 6 := by omega
  have j0 : (0 : Int) ≤ t0 := by omega
  have j6 : (t0 : Int) < 6 := by omega
  have hkn := knownOne t0 n0 c
  obtain ⟨q, hq⟩ : ∃ q, decide (n0 ≤ c t0) = q := ⟨_, rfl⟩
  rw [hq] at hkn ⊢
  clear hq
  go_enter Tryz.func184, Tryz.ntmps184
  go_wp2_with fail
  have hO := ((Has.new w (epC t0 n0) 215).alloc (.cells (epC t n) 177)).alloc (.cells (clkC c) 87)
  have hE := ((Has.new (w.alloc (.cells (epC t0 n0) 215)) (epC t n) 177).alloc (.cells (clkC c) 87)).at (c := w.heap.size + 1) (by simp)
  have hb := (((Below.refl w.heap.size w).alloc (Nat.le_refl _) (.cells (epC t0 n0) 215)).alloc (by simp) (.cells (epC t n) 177)).alloc (by simp; omega) (.cells (clkC c) 87)
  refine (hkn _ ht0).mono ?_
  rintro r w1 ⟨rfl, hk⟩
  replace hO := hO.below hk hO.lt
  replace hE := hE.below hk hE.lt
  replace hb := hb.trans (hk.mono hb.size)
  clear hk hkn
  have o0 : w1.cell? ⟨w.heap.size, 0, none⟩ = some (.int .i64 t0) := hO.cell rfl
  have o1 : w1.cell? ⟨w.heap.size, 1, none⟩ = some (.int .i64 n0) := hO.cell rfl
  have e0 : w1.cell? ⟨w.heap.size + 1, 0, none⟩ = some (.int .i64 t) := hE.cell rfl
  have e1 : w1.cell? ⟨w.heap.size + 1, 1, none⟩ = some (.int .i64 n) := hE.cell rfl
  cases q
  · have hOl := hO.lt
    have hEl := hE.lt
    have hN := Has.new w1 (clkC fun _ => 0) 237
    have hO2 := hO.alloc (.cells (clkC fun _ => 0) 237)
    have hE2 := hE.alloc (.cells (clkC fun _ => 0) 237)
    have hb2 := hb.alloc hb.size (.cells (clkC fun _ => 0) 237)
    go_upto_region 4 with fail
    clear o0 o1 e0 e1
    generalize w1.alloc (.cells (clkC fun _ => 0) 237) = w2 at *
    have o0 : w2.cell? ⟨w.heap.size, 0, none⟩ = some (.int .i64 t0) := hO2.cell rfl
    have o1 : w2.cell? ⟨w.heap.size, 1, none⟩ = some (.int .i64 n0) := hO2.cell rfl
    have m0 : w2.cell? ⟨w1.heap.size, t0, none⟩ = some (.int .i64 0) := hN.cell (clkC_get _ t0 ht0)
    have m1 := hN.free t0
    go_upto_region 5 with fail
    clear o0 o1 m0 m1
    have n1 : w.heap.size ≠ w1.heap.size := by omega
    have n2 : w.heap.size + 1 ≠ w1.heap.size := by omega
    have hN3 : Has _ w1.heap.size (clkC (setC (fun _ => 0) t0 n0)) 237 := (hN.setCell t0 (.int .i64 n0)).to (clkC_set _ t0 ht0 n0)
    have hE3 := hE2.setCell_ne (a := ⟨w1.heap.size, t0, none⟩) n2 (.int .i64 n0)
    have hb3 := hb2.setCell (p := ⟨w1.heap.size, t0, none⟩) (by simp; omega) (.int .i64 n0)
    generalize w2.setCell ⟨w1.heap.size, t0, none⟩ (.int .i64 n0) = w3 at *
    have e0 : w3.cell? ⟨w.heap.size + 1, 0, none⟩ = some (.int .i64 t) := hE3.cell rfl
    have e1 : w3.cell? ⟨w.heap.size + 1, 1, none⟩ = some (.int .i64 n) := hE3.cell rfl
    have m0 := hN3.cell (clkC_get _ t ht)
    have m1 := hN3.free t
    go_upto_region 6 with fail
    clear e0 e1 m0 m1
    have hN4 : Has _ w1.heap.size (clkC (setC (setC (fun _ => 0) t0 n0) t n)) 237 := (hN3.setCell t (.int .i64 n)).to (clkC_set _ t ht n)
    have hb4 := hb3.setCell (p := ⟨w1.heap.size, t, none⟩) (by simp; omega) (.int .i64 n)
    generalize w3.setCell ⟨w1.heap.size, t, none⟩ (.int .i64 n) = w4 at *
    obtain ⟨f, hf⟩ : ∃ f, setC (setC (fun _ => 0) t0 n0) t n = f := ⟨_, rfl⟩
    rw [hf] at hN4
    have HFF := Lib.hid hf
    clear hf
    obtain ⟨c0, c1, c2, c3, c4, c5⟩ := hN4.clk
    go_wp2
    go_ret
    refine ⟨?_, hb4⟩
    rw [HFF.out]
    rfl
  · go_wp2
    go_ret
    exact ⟨rfl, hb⟩
theorem info_one : ∃ i, Tryz.prog.info? 215 = some i ∧ i.comparable = true := by
  have h : (Tryz.prog.info? 215).map (·.comparable) = some true := by kernel_rfl
  cases hi : Tryz.prog.info? 215 with
  | none => rw [hi] at h; cases h
  | some i => rw [hi] at h; exact ⟨i, rfl, by simpa using h⟩
theorem equalIn_one (t t' : Nat) (n n' : Int) (w : World) : (Op.equalIn 9999 215 (epV t n) (epV t' n')).run Tryz.prog w = .ok (decide (t = t' ∧ n = n')) w := by
  rw [run_equalIn_agg (P := Tryz.prog) w 9998 _ _ _ (by kernel_rfl) (by kernel_rfl)]
  simp [go_sem]
  by_cases h1 : t = t' <;> by_cases h2 : n = n' <;> simp [h1, h2] <;> omega
theorem equalIn_ifc (d : Nat) (t t' : Nat) (n n' : Int) (w : World) : (Op.equalIn (d + 1) 179 (oneI t n) (oneI t' n')).run Tryz.prog w = (Op.equalIn d 215 (epV t n) (epV t' n')).run Tryz.prog w := by
  obtain ⟨i, hi, hc⟩ := info_one
  simp [Op.equalIn, run_underlying Tryz.underlying179, typeInfo, hi, hc]
theorem eq_one (t t' : Nat) (n n' : Int) (w : World) : (binOp .eql 179 (oneI t n) (oneI t' n')).run Tryz.prog w = .ok (.bool (decide (t = t' ∧ n = n'))) w := by
  have h2 : (Op.equalIn 10000 179 (oneI t n) (oneI t' n')).run Tryz.prog w = .ok (decide (t = t' ∧ n = n')) w := by
    rw [← equalIn_one]; exact equalIn_ifc 9999 t t' n n' w
  simp only [binOp]
  simp [Op.equal, Op.maxDepth, h2]
theorem eq_ep (t t' : Nat) (n n' : Int) (w : World) : (binOp .eql 177 (epV t n) (epV t' n')).run Tryz.prog w = .ok (.bool (decide (t = t' ∧ n = n'))) w := by
  have h : (Op.equalIn 10000 177 (epV t n) (epV t' n')).run Tryz.prog w = .ok (decide (t = t' ∧ n = n')) w := by
    rw [run_equalIn_agg (P := Tryz.prog) w 9999 _ _ _ (by kernel_rfl) (by kernel_rfl)]
    simp [go_sem]
    by_cases h1 : t = t' <;> by_cases h2 : n = n' <;> simp [h1, h2] <;> omega
  rw [run_eql_struct, h]; rfl
theorem eq_many (f : Nat → Int) (t' : Nat) (n' : Int) (w : World) : (binOp .eql 179 (manyI f) (oneI t' n')).run Tryz.prog w = .ok (.bool false) w := by
  kernel_rfl
theorem method_one (v : Value) (w : World) : (method 383 215 v "deadheat/fast.known").run Tryz.prog w = .ok (185, v) w ∧ (method 383 215 v "deadheat/fast.also").run Tryz.prog w = .ok (184, v) w := ⟨by kernel_rfl, by kernel_rfl⟩
theorem method_many (v : Value) (w : World) : (method 383 237 v "deadheat/fast.known").run Tryz.prog w = .ok (188, v) w ∧ (method 383 237 v "deadheat/fast.also").run Tryz.prog w = .ok (187, v) w := ⟨by kernel_rfl, by kernel_rfl⟩
theorem assert_one (t : Nat) (n : Int) (w : World) : (Instr.typeAssert (oneI t n) 179 237 true).run Tryz.prog w = .ok (.tuple #[clkV fun _ => 0, .bool false]) w := by kernel_rfl
theorem assert_many (f : Nat → Int) (w : World) : (Instr.typeAssert (manyI f) 179 237 true).run Tryz.prog w = .ok (.tuple #[clkV f, .bool true]) w := by kernel_rfl
end Go.Proofs.YtfjbnhacfficnaaGreatDoor
