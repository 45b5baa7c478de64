/- Contract of trace.Held. -/
import Derived.Test.YtjpopjjjnaapnaaTrC
namespace Go.Proofs.Ytjpopjjjnaapnaa
open Go.RowKit

/-- A set of the numbers below n, as a number. -/
def setN (own : Nat → Bool) : Nat → Nat
  | 0 => 0
  | n + 1 => setN own n + if own n then 2 ^ n else 0
theorem setN_lt (own : Nat → Bool) : ∀ n, setN own n < 2 ^ n
  | 0 => by simp [setN]
  | n + 1 => by
    have := setN_lt own n
    simp only [setN, Nat.pow_succ]
    split <;> omega
def ownB (s : St) (t : Int) : Nat → Bool := fun j => s.owner j == t + 1
/-- What Held yields: the set, the fault. -/
def heldV (l : List Ev) (t : Int) : Int × Int :=
  if (played l).2.2 ≠ 0 then (0, (played l).2.2) else if 0 ≤ t ∧ t < 6 then (((setN (ownB (played l).1 t) 5 : Nat) : Int), 0) else (0, 1)
set_option maxRecDepth 100000 in
theorem or_bits : (∀ a : Fin 1, IntKind.i64.wrap (BitVec.ofInt 64 (a.val : Int) ||| BitVec.ofInt 64 1).toNat = ((a.val + 1 : Nat) : Int)) ∧ (∀ a : Fin 2, IntKind.i64.wrap (BitVec.ofInt 64 (a.val : Int) ||| BitVec.ofInt 64 2).toNat = ((a.val + 2 : Nat) : Int)) ∧ (∀ a : Fin 4, IntKind.i64.wrap (BitVec.ofInt 64 (a.val : Int) ||| BitVec.ofInt 64 4).toNat = ((a.val + 4 : Nat) : Int)) ∧ (∀ a : Fin 8, IntKind.i64.wrap (BitVec.ofInt 64 (a.val : Int) ||| BitVec.ofInt 64 8).toNat = ((a.val + 8 : Nat) : Int)) ∧ (∀ a : Fin 16, IntKind.i64.wrap (BitVec.ofInt 64 (a.val : Int) ||| BitVec.ofInt 64 16).toNat = ((a.val + 16 : Nat) : Int)) := by
  decide

set_option maxRecDepth 100000 in
theorem own_at (a0 a1 a2 a3 a4 : Int) : (∀ w, (Instr.index 70 (.agg #[.int .i64 a0, .int .i64 a1, .int .i64 a2, .int .i64 a3, .int .i64 a4]) (.int .i64 0)).run Try.prog w = .ok (.int .i64 a0) w) ∧ (∀ w, (Instr.index 70 (.agg #[.int .i64 a0, .int .i64 a1, .int .i64 a2, .int .i64 a3, .int .i64 a4]) (.int .i64 1)).run Try.prog w = .ok (.int .i64 a1) w) ∧ (∀ w, (Instr.index 70 (.agg #[.int .i64 a0, .int .i64 a1, .int .i64 a2, .int .i64 a3, .int .i64 a4]) (.int .i64 2)).run Try.prog w = .ok (.int .i64 a2) w) ∧ (∀ w, (Instr.index 70 (.agg #[.int .i64 a0, .int .i64 a1, .int .i64 a2, .int .i64 a3, .int .i64 a4]) (.int .i64 3)).run Try.prog w = .ok (.int .i64 a3) w) ∧ (∀ w, (Instr.index 70 (.agg #[.int .i64 a0, .int .i64 a1, .int .i64 a2, .int .i64 a3, .int .i64 a4]) (.int .i64 4)).run Try.prog w = .ok (.int .i64 a4) w) := ⟨fun _ => by kernel_rfl, fun _ => by kernel_rfl, fun _ => by kernel_rfl, fun _ => by kernel_rfl, fun _ => by kernel_rfl⟩
set_option maxRecDepth 100000 in
theorem held_any (l : List Ev) (a : Option Addr) (c : Nat) (t : Int) (w : World) (h : EvS w a l) :
    Calls Try.prog 25 #[.slice a l.length c, .int .i64 t] w fun r w' => r = .returned (.tuple #[.int .i64 (heldV l t).1, .int .i64 (heldV l t).2]) ∧ Below w.heap.size w w' := by
  by_cases he : (played l).2.2 = 0
  · by_cases ht : 0 ≤ t ∧ t < 6
    · have hv : heldV l t = (((setN (ownB (played l).1 t) 5 : Nat) : Int), 0) := by simp [heldV, he, ht]
      have hp := played_any l a c w h
      rw [hv]
      rw [he] at hp
      clear hv he
      generalize (played l).1 = s at *
      go_enter Try.func25, Try.ntmps25
      go_wp2_with fail
      refine hp.mono ?_
      clear hp
      rintro r w' ⟨rfl, h1, hb⟩
      have t0 : decide (t < 0) = false := by simp; omega
      have t1 : decide (t ≥ 6) = false := by simp; omega
      have tw : IntKind.i64.wrap (t + 1) = t + 1 := IntWalk.i64_in _ (by omega)
      obtain ⟨o0, o1, o2, o3, o4⟩ : w'.cell? ⟨w.heap.size, 12, none⟩ = some (.int .i64 (s.owner 0)) ∧ w'.cell? ⟨w.heap.size, 13, none⟩ = some (.int .i64 (s.owner 1)) ∧ w'.cell? ⟨w.heap.size, 14, none⟩ = some (.int .i64 (s.owner 2)) ∧ w'.cell? ⟨w.heap.size, 15, none⟩ = some (.int .i64 (s.owner 3)) ∧ w'.cell? ⟨w.heap.size, 16, none⟩ = some (.int .i64 (s.owner 4)) := ⟨h1.cell rfl, h1.cell rfl, h1.cell rfl, h1.cell rfl, h1.cell rfl⟩
      clear h1 ht
      go_wp2
      go_loopw [9, 33] (fun v i wr => ∃ (k : Nat) (j : Int), k ≤ 5 ∧ j = k ∧ v = .int .i64 (setN (ownB s t) k : Nat) ∧ i = .int .i64 j ∧ Below w.heap.size w wr) (fun _ i _ => 5 - (intOf i).toNat)
      case atStart => exact ⟨0, 0, Nat.zero_le _, rfl, rfl, rfl, hb⟩
      case round =>
        clear hb o0 o1 o2 o3 o4
        obtain ⟨k, j, hk, hj, rfl, rfl, hb⟩ := hrel
        obtain ⟨i0, i1, i2, i3, i4⟩ := own_at (s.owner 0) (s.owner 1) (s.owner 2) (s.owner 3) (s.owner 4)
        obtain ⟨b0, b1, b2, b3, b4⟩ := or_bits
        have hlt := setN_lt (ownB s t) k
        rcases (show k = 0 ∨ k = 1 ∨ k = 2 ∨ k = 3 ∨ k = 4 ∨ k = 5 by omega) with rfl | rfl | rfl | rfl | rfl | rfl
        · replace b0 := b0 ⟨setN (ownB s t) 0, hlt⟩
          clear b1 b2 b3 b4
          simp only at b0
          obtain rfl : j = 0 := by simpa using hj
          clear hj
          clear hlt
          cases hq : (s.owner 0 == t + 1)
          · have hx : setN (ownB s t) 1 = setN (ownB s t) 0 := by simp [setN, ownB, hq]
            have HX := Lib.hid hx
            clear hx b0
            generalize setN (ownB s t) 0 = A at *
            go_wp2
            go_roundw
            case rel => exact ⟨1, 1, by omega, rfl, by rw [HX.out], by go_num, hb⟩
            case measure => (simp [intOf]; try omega)
          · have hx : setN (ownB s t) 1 = setN (ownB s t) 0 + 1 := by simp [setN, ownB, hq]
            have HX := Lib.hid hx
            clear hx
            generalize setN (ownB s t) 0 = A at *
            go_wp2
            go_roundw
            case rel => exact ⟨1, 1, by omega, rfl, by rw [HX.out]; exact congrArg (Value.int .i64) b0, by go_num, hb⟩
            case measure => (simp [intOf]; try omega)
        · replace b1 := b1 ⟨setN (ownB s t) 1, hlt⟩
          clear b0 b2 b3 b4
          simp only at b1
          obtain rfl : j = 1 := by simpa using hj
          clear hj
          clear hlt
          cases hq : (s.owner 1 == t + 1)
          · have hx : setN (ownB s t) 2 = setN (ownB s t) 1 := by simp [setN, ownB, hq]
            have HX := Lib.hid hx
            clear hx b1
            generalize setN (ownB s t) 1 = A at *
            go_wp2
            go_roundw
            case rel => exact ⟨2, 2, by omega, rfl, by rw [HX.out], by go_num, hb⟩
            case measure => (simp [intOf]; try omega)
          · have hx : setN (ownB s t) 2 = setN (ownB s t) 1 + 2 := by simp [setN, ownB, hq]
            have HX := Lib.hid hx
            clear hx
            generalize setN (ownB s t) 1 = A at *
            go_wp2
            go_roundw
            case rel => exact ⟨2, 2, by omega, rfl, by rw [HX.out]; exact congrArg (Value.int .i64) b1, by go_num, hb⟩
            case measure => (simp [intOf]; try omega)
        · replace b2 := b2 ⟨setN (ownB s t) 2, hlt⟩
          clear b0 b1 b3 b4
          simp only at b2
          obtain rfl : j = 2 := by simpa using hj
          clear hj
          clear hlt
          cases hq : (s.owner 2 == t + 1)
          · have hx : setN (ownB s t) 3 = setN (ownB s t) 2 := by simp [setN, ownB, hq]
            have HX := Lib.hid hx
            clear hx b2
            generalize setN (ownB s t) 2 = A at *
            go_wp2
            go_roundw
            case rel => exact ⟨3, 3, by omega, rfl, by rw [HX.out], by go_num, hb⟩
            case measure => (simp [intOf]; try omega)
          · have hx : setN (ownB s t) 3 = setN (ownB s t) 2 + 4 := by simp [setN, ownB, hq]
            have HX := Lib.hid hx
            clear hx
            generalize setN (ownB s t) 2 = A at *
            go_wp2
            go_roundw
            case rel => exact ⟨3, 3, by omega, rfl, by rw [HX.out]; exact congrArg (Value.int .i64) b2, by go_num, hb⟩
            case measure => (simp [intOf]; try omega)
        · replace b3 := b3 ⟨setN (ownB s t) 3, hlt⟩
          clear b0 b1 b2 b4
          simp only at b3
          obtain rfl : j = 3 := by simpa using hj
          clear hj
          clear hlt
          cases hq : (s.owner 3 == t + 1)
          · have hx : setN (ownB s t) 4 = setN (ownB s t) 3 := by simp [setN, ownB, hq]
            have HX := Lib.hid hx
            clear hx b3
            generalize setN (ownB s t) 3 = A at *
            go_wp2
            go_roundw
            case rel => exact ⟨4, 4, by omega, rfl, by rw [HX.out], by go_num, hb⟩
            case measure => (simp [intOf]; try omega)
          · have hx : setN (ownB s t) 4 = setN (ownB s t) 3 + 8 := by simp [setN, ownB, hq]
            have HX := Lib.hid hx
            clear hx
            generalize setN (ownB s t) 3 = A at *
            go_wp2
            go_roundw
            case rel => exact ⟨4, 4, by omega, rfl, by rw [HX.out]; exact congrArg (Value.int .i64) b3, by go_num, hb⟩
            case measure => (simp [intOf]; try omega)
        · replace b4 := b4 ⟨setN (ownB s t) 4, hlt⟩
          clear b0 b1 b2 b3
          simp only at b4
          obtain rfl : j = 4 := by simpa using hj
          clear hj
          clear hlt
          cases hq : (s.owner 4 == t + 1)
          · have hx : setN (ownB s t) 5 = setN (ownB s t) 4 := by simp [setN, ownB, hq]
            have HX := Lib.hid hx
            clear hx b4
            generalize setN (ownB s t) 4 = A at *
            go_wp2
            go_roundw
            case rel => exact ⟨5, 5, by omega, rfl, by rw [HX.out], by go_num, hb⟩
            case measure => (simp [intOf]; try omega)
          · have hx : setN (ownB s t) 5 = setN (ownB s t) 4 + 16 := by simp [setN, ownB, hq]
            have HX := Lib.hid hx
            clear hx
            generalize setN (ownB s t) 4 = A at *
            go_wp2
            go_roundw
            case rel => exact ⟨5, 5, by omega, rfl, by rw [HX.out]; exact congrArg (Value.int .i64) b4, by go_num, hb⟩
            case measure => (simp [intOf]; try omega)
        · clear b0 b1 b2 b3 b4
          obtain rfl : j = 5 := by simpa using hj
          clear hj
          go_wp2
          go_ret2
          exact ⟨rfl, hb⟩
    · have hv : heldV l t = (0, 1) := by simp [heldV, he, ht]
      have hp := played_any l a c w h
      rw [hv]
      rw [he] at hp
      clear hv he
      go_enter Try.func25, Try.ntmps25
      go_wp2_with fail
      refine hp.mono ?_
      clear hp
      rintro r w' ⟨rfl, h1, hb⟩
      by_cases t5 : t < 0
      · have t0 : decide (t < 0) = true := by simpa using t5
        go_wp2
        go_ret2
        exact ⟨rfl, hb⟩
      · have t0 : decide (t < 0) = false := by simpa using t5
        have t1 : decide (t ≥ 6) = true := by simp; omega
        go_wp2
        go_ret2
        exact ⟨rfl, hb⟩
  · have hv : heldV l t = (0, (played l).2.2) := by simp [heldV, he]
    have hp := played_any l a c w h
    have he2 : ((played l).2.2 != 0) = true := by simpa using he
    rw [hv]
    clear hv he
    generalize (played l).2.2 = E at *
    go_enter Try.func25, Try.ntmps25
    go_wp2_with fail
    refine hp.mono ?_
    clear hp
    rintro r w' ⟨rfl, h1, hb⟩
    go_wp2
    go_ret2
    exact ⟨rfl, hb⟩
end Go.Proofs.Ytjpopjjjnaapnaa
