/- Contract of stamp.Knows. -/
import Derived.Test.YtlphmkdlacnnoaaStmE
namespace Go.Proofs.Ytlphmkdlacnnoaa
open Go.RowKit

/-- The clock of a thread's last event below place n (none: zeros). -/
def knL (l : List Ev) (t : Int) : Nat → (Nat → Int)
  | 0 => fun _ => 0
  | n + 1 => if (evAt l n).t = t then stampOf l n else knL l t n
theorem eql_self (f : Nat → Int) (w : World) : (binOp .eql 44 (.agg #[.int .i64 (f 0), .int .i64 (f 1), .int .i64 (f 2), .int .i64 (f 3), .int .i64 (f 4), .int .i64 (f 5)]) (.agg #[.int .i64 (f 0), .int .i64 (f 1), .int .i64 (f 2), .int .i64 (f 3), .int .i64 (f 4), .int .i64 (f 5)])).run Try.prog w = .ok (.bool true) w := by
  have := eql_clk f f w
  rw [show ceq f f = true from ceq_iff.2 fun _ _ => rfl] at this
  exact this
set_option maxRecDepth 100000 in
set_option maxHeartbeats 4000000 in
theorem knows_err (l : List Ev) (t : Int) (a : Option Addr) (c : Nat) (w : World) (h : EvS w a l) (he : (played l).2.2 ≠ 0) :
    Calls Try.prog 26 #[.slice a l.length c, .int .i64 t] w fun r w' => r = .returned (.tuple #[clkV (fun _ => 0), .int .i64 (played l).2.2]) ∧ Below w.heap.size w w' := by
  have e2 : ((played l).2.2 != 0) = true := by simpa using he
  have hb1 := (Below.refl w.heap.size w).alloc (Nat.le_refl _) (.cells (clkC fun _ => 0) 44)
  have h0 := Has.new w (clkC fun _ => 0) 44
  go_enter Try.func26, Try.ntmps26
  go_wp2_with fail
  refine (stamps_err l a c _ (h.below hb1) he).mono ?_
  rintro r w1 ⟨rfl, hk⟩
  replace h0 := h0.below hk h0.lt
  replace hb1 := hb1.trans (hk.mono hb1.size)
  obtain ⟨e0, e1, e3, e4, e5, e6⟩ := h0.clk
  obtain ⟨g0, g1, g2, g3, g4, g5⟩ := h0.clkFree
  go_wp2_with fail
  clear e0 e1 e3 e4 e5 e6 g0 g1 g2 g3 g4 g5
  refine end_has (b := w.heap.size) (B := w.heap.size) (w := w) (cs := clkC fun _ => 0) (t := 44) ?_ ?_ ?_
  · exact ((((((h0.setCell _ _).setCell _ _).setCell _ _).setCell _ _).setCell _ _).setCell _ _).to (by simp [clkC])
  · exact (((((hb1.setCell (Nat.le_refl _) _).setCell (Nat.le_refl _) _).setCell (Nat.le_refl _) _).setCell (Nat.le_refl _) _).setCell (Nat.le_refl _) _).setCell (Nat.le_refl _) _
  intro W hW hB
  obtain ⟨c0, c1, c2, c3, c4, c5⟩ := hW.clk
  exact bodyPost_ret (v := .tuple #[clkV (fun _ => 0), .int .i64 (played l).2.2]) (by simp [results, Try.results26, go_sem, c0, c1, c2, c3, c4, c5]) rfl ⟨rfl, hB⟩

set_option maxRecDepth 100000 in
set_option maxHeartbeats 4000000 in
theorem knows_ok (l : List Ev) (t : Nat) (ht : t < 6) (a : Option Addr) (c : Nat) (w : World) (h : EvS w a l) (he : (played l).2.2 = 0) :
    Calls Try.prog 26 #[.slice a l.length c, .int .i64 (t : Int)] w fun r w' => r = .returned (.tuple #[clkV (knL l t l.length), .int .i64 0]) ∧ Below w.heap.size w w' := by
  have hl80 := (played_evs he).1
  have hb1 := (Below.refl w.heap.size w).alloc (Nat.le_refl _) (.cells (clkC fun _ => 0) 44)
  have h0 := Has.new w (clkC fun _ => 0) 44
  have HE := Lib.hid he
  clear he
  have t0 : decide ((t : Int) < 0) = false := by simp
  have t1 : decide ((t : Int) ≥ 6) = false := by simp; omega
  have t2 : decide (6 ≤ (t : Int)) = false := by simp; omega
  go_enter Try.func26, Try.ntmps26
  go_wp2_with fail
  refine (stamps_ok l a c _ (h.below hb1) HE.out).mono ?_
  rintro r w1 ⟨v, rfl, hown, hk⟩
  have hex : ∃ a2 c2, v = .slice a2 l.length c2 ∧ CkS w1 a2 (stampL l l.length) := by
    obtain ⟨a, c, h1, h2, _⟩ := ckS_own hown
    rw [stampL_length] at h1
    exact ⟨a, c, h1, h2⟩
  obtain ⟨a2, c2, rfl, hC⟩ := hex
  replace h0 := h0.below hk h0.lt
  replace hb1 := hb1.trans (hk.mono hb1.size)
  replace h := h.below hb1
  clear hk hown
  go_wp2
  go_loopw [8] (fun i wr => ∃ n : Nat, n ≤ l.length ∧ i = .int .i64 ((n : Int) - 1) ∧ Hid (knL l t l.length = knL l t n) ∧ wr = w1) (fun i _ => (intOf i + 1).toNat)
  case atStart => exact ⟨l.length, Nat.le_refl _, rfl, Lib.hid rfl, rfl⟩
  case round =>
    obtain ⟨n, hn, rfl, HK, rfl⟩ := hrel
    obtain ⟨e0, e1, e3, e4, e5, e6⟩ := h0.clk
    obtain ⟨g0, g1, g2, g3, g4, g5⟩ := h0.clkFree
    cases n with
    | zero =>
      have hz : knL l t l.length = fun _ => 0 := HK.out
      have HZ := Lib.hid hz
      clear hz HK
      go_wp2
      clear e0 e1 e3 e4 e5 e6 g0 g1 g2 g3 g4 g5
      rw [HZ.out]
      refine end_has (b := w.heap.size) (B := w.heap.size) (w := w) (cs := clkC fun _ => 0) (t := 44) ?_ ?_ ?_
      · exact ((((((h0.setCell _ _).setCell _ _).setCell _ _).setCell _ _).setCell _ _).setCell _ _).to (by simp [clkC])
      · exact (((((hb1.setCell (Nat.le_refl _) _).setCell (Nat.le_refl _) _).setCell (Nat.le_refl _) _).setCell (Nat.le_refl _) _).setCell (Nat.le_refl _) _).setCell (Nat.le_refl _) _
      intro W hW hB
      obtain ⟨c0, c1, c2, c3, c4, c5⟩ := hW.clk
      exact bodyPost_ret (v := .tuple #[clkV (fun _ => 0), .int .i64 0]) (by simp [results, Try.results26, go_sem, c0, c1, c2, c3, c4, c5]) rfl ⟨rfl, hB⟩
    | succ m =>
      have hml : m < l.length := by omega
      obtain ⟨b', o', rfl, d0, d1, d2⟩ := h.at hml
      have hx : evAt l m = l[m] := by simp [evAt, hml]
      rw [← hx] at d0 d1 d2
      clear hx
      obtain ⟨g, rfl⟩ := hC.some (show 0 < l.length by omega)
      obtain ⟨x0, x1, x2, x3, x4, x5⟩ := hC.sixAt hml
      have q0 : (0 : Int) ≤ m := by omega
      have q1 : (m : Int) < l.length := by omega
      have eq1 : (((m + 1 : Nat) : Int) - 1) = (m : Int) := by omega
      rw [eq1]
      clear eq1
      by_cases hm : (evAt l m).t = t
      · have hmb : ((evAt l m).t == (t : Int)) = true := by simpa using hm
        have hz : knL l t l.length = stampOf l m := by rw [HK.out]; simp [knL, hm]
        have HZ := Lib.hid hz
        clear hz HK hm
        go_wp2
        clear e0 e1 e3 e4 e5 e6 g0 g1 g2 g3 g4 g5 x0 x1 x2 x3 x4 x5
        rw [HZ.out]
        refine end_has (b := w.heap.size) (B := w.heap.size) (w := w) (cs := clkC (stampOf l m)) (t := 44) ?_ ?_ ?_
        · exact ((((((h0.setCell _ _).setCell _ _).setCell _ _).setCell _ _).setCell _ _).setCell _ _).to (by simp [clkC])
        · exact (((((hb1.setCell (Nat.le_refl _) _).setCell (Nat.le_refl _) _).setCell (Nat.le_refl _) _).setCell (Nat.le_refl _) _).setCell (Nat.le_refl _) _).setCell (Nat.le_refl _) _
        intro W hW hB
        obtain ⟨c0, c1, c2, c3, c4, c5⟩ := hW.clk
        exact bodyPost_ret (v := .tuple #[clkV (stampOf l m), .int .i64 0]) (by simp [results, Try.results26, go_sem, c0, c1, c2, c3, c4, c5]) rfl ⟨rfl, hB⟩
      · have hmb : ((evAt l m).t == (t : Int)) = false := by simpa using hm
        have HN : Hid (knL l t l.length = knL l t m) := Lib.hid (by rw [HK.out]; simp [knL, hm])
        clear HK hm
        go_wp2
        go_roundw
        case rel => exact ⟨m, by omega, by go_num, HN, trivial⟩
        case measure => (simp [intOf]; try omega)
end Go.Proofs.Ytlphmkdlacnnoaa
