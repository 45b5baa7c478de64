/- ClockCounts: the effect of several ticks is their number, in any order of the threads: for every clock and every slice of numbers. -/
import Derived.Test.YtamjibnebofkfaaClkD
import Derived.Test.YtamjibnebofkfaaCnt
import Derived.Test.YtamjibnebofkfaaOpenI
import Derived.IntWalk
import Derived.Deep.RegionLaw
import Derived.Deep.DeepCutAuto
namespace Go.Proofs.Ytamjibnebofkfaa
open Go.ChangeShapes Go.WideShapes Go.ChangeAt Go.RowKit

/-- What Tick yields. -/
def tkV (f : Nat → Int) (t : Int) : Nat → Int := if tkOk f t then cup f t.toNat 1 else fun _ => 0
def tkE (f : Nat → Int) (t : Int) : Int := if tkOk f t then 0 else if 0 ≤ t ∧ t < 6 then 2 else 1
theorem tkE_zero (f : Nat → Int) (t : Int) : (tkE f t == 0) = tkOk f t := by
  unfold tkE
  by_cases h : tkOk f t = true
  · rw [if_pos h, h]; rfl
  · rw [if_neg h]
    have h' : tkOk f t = false := by simpa using h
    rw [h']
    split <;> rfl
theorem tick_any (f : Nat → Int) (t : Int) (w : World) (hf : ∀ i, i < 6 → -9223372036854775808 ≤ f i) :
    Calls Try.prog 33 #[clkV f, .int .i64 t] w fun e w' => e = .returned (.tuple #[clkV (tkV f t), .int .i64 (tkE f t)]) ∧ Below w.heap.size w w' := by
  by_cases ht : 0 ≤ t ∧ t < 6
  · obtain ⟨k, hk⟩ := Int.eq_ofNat_of_zero_le ht.1
    subst hk
    have hk6 : k < 6 := by omega
    by_cases hl : f k < 1000000
    · have hok : tkOk f (k : Int) = true := by simp [tkOk, hl]; omega
      have := tick_ok f k w hk6 hl (hf k hk6)
      unfold tkV tkE
      rw [if_pos hok, if_pos hok]
      simpa using this
    · have hok : ¬ tkOk f (k : Int) = true := by simp [tkOk]; omega
      have := tick_large f k w hk6 (by omega)
      unfold tkV tkE
      rw [if_neg hok, if_neg hok, if_pos ht]
      exact this
  · have hok : ¬ tkOk f t = true := by simp [tkOk]; omega
    have := tick_bad f t w (by omega)
    unfold tkV tkE
    rw [if_neg hok, if_neg hok, if_neg ht]
    exact this
theorem tkS_eq (f : Nat → Int) (t : Int) : tkS f t = if tkOk f t then tkV f t else f := by
  unfold tkS tkV
  by_cases h : tkOk f t = true
  · rw [if_pos h, if_pos h, if_pos h]
  · rw [if_neg h, if_neg h]
theorem Has.set6 {w : World} {b : Nat} {f : Nat → Int} {T : TypeId} (h : Has w b (clkC f) T) (g : Nat → Int) : Has ((((((w.setCell ⟨b, 0, none⟩ (.int .i64 (g 0))).setCell ⟨b, 1, none⟩ (.int .i64 (g 1))).setCell ⟨b, 2, none⟩ (.int .i64 (g 2))).setCell ⟨b, 3, none⟩ (.int .i64 (g 3))).setCell ⟨b, 4, none⟩ (.int .i64 (g 4))).setCell ⟨b, 5, none⟩ (.int .i64 (g 5))) b (clkC g) T :=
  ((((((h.setCell 0 _).setCell 1 _).setCell 2 _).setCell 3 _).setCell 4 _).setCell 5 _).to (by simp [clkC])
theorem Has.set6_ne {w : World} {b b' : Nat} {cs : Array Value} {T : TypeId} (h : Has w b cs T) (hb : b ≠ b') (g : Nat → Int) : Has ((((((w.setCell ⟨b', 0, none⟩ (.int .i64 (g 0))).setCell ⟨b', 1, none⟩ (.int .i64 (g 1))).setCell ⟨b', 2, none⟩ (.int .i64 (g 2))).setCell ⟨b', 3, none⟩ (.int .i64 (g 3))).setCell ⟨b', 4, none⟩ (.int .i64 (g 4))).setCell ⟨b', 5, none⟩ (.int .i64 (g 5))) b cs T :=
  (((((h.setCell_ne hb _).setCell_ne hb _).setCell_ne hb _).setCell_ne hb _).setCell_ne hb _).setCell_ne hb _
theorem below_set6 {w w' : World} {b N : Nat} (h : Below N w w') (hb : N ≤ b) (g : Nat → Int) : Below N w ((((((w'.setCell ⟨b, 0, none⟩ (.int .i64 (g 0))).setCell ⟨b, 1, none⟩ (.int .i64 (g 1))).setCell ⟨b, 2, none⟩ (.int .i64 (g 2))).setCell ⟨b, 3, none⟩ (.int .i64 (g 3))).setCell ⟨b, 4, none⟩ (.int .i64 (g 4))).setCell ⟨b, 5, none⟩ (.int .i64 (g 5))) :=
  (((((h.setCell hb _).setCell hb _).setCell hb _).setCell hb _).setCell hb _).setCell hb _
theorem clk_idx (f : Nat → Int) {k : Nat} (hk : k < 6) (w : World) : (Instr.index 53 (clkV f) (.int .i64 (k : Int))).run Try.prog w = .ok (.int .i64 (f k)) w := by
  rcases (by omega : k = 0 ∨ k = 1 ∨ k = 2 ∨ k = 3 ∨ k = 4 ∨ k = 5) with rfl | rfl | rfl | rfl | rfl | rfl <;> kernel_rfl
/-- Sums of differences. -/
def pS (A f : Nat → Int) : Nat → Int
  | 0 => 0
  | k + 1 => pS A f k + (A k - f k)
theorem pS_six (A f : Nat → Int) : pS A f 6 = s6 A - s6 f := by simp only [pS, s6]; omega
theorem pS_in (f : Nat → Int) (l : List Int) : ∀ k, k ≤ 6 → 0 ≤ pS (tkL f l) f k ∧ pS (tkL f l) f k ≤ k * l.length
  | 0, _ => by simp [pS]
  | k + 1, h => by
    have h1 := pS_in f l k (by omega)
    have h2 := tkL_range l f (show k < 6 by omega)
    have h3 : ((k + 1 : Nat) : Int) * l.length = k * l.length + l.length := by rw [Int.natCast_add, Int.add_mul]; simp
    simp only [pS]
    omega

set_option maxRecDepth 100000 in
set_option maxHeartbeats 8000000 in
theorem clockCounts_walk (f : Nat → Int) (a : Option Addr) (z : List Int) (c : Nat) (w : World) (hf : ∀ i, i < 6 → I64 (f i)) (hz : IntS w a z ∧ z.length ≤ c ∧ z.length * 8 ≤ 140737488351232 ∧ ∀ n ∈ z, I64 n) :
    Calls Try.prog 11 #[clkV f, .slice a z.length c] w fun e w' => e = .returned (.bool true) ∧ Below w.heap.size w w' := by
  obtain ⟨h0, hc, hz8, _⟩ := hz
  have hN := Has.new w (clkC f) 53
  have hb0 := (Below.refl w.heap.size w).alloc (Nat.le_refl _) (.cells (clkC f) 53)
  go_enter Try.func11, Try.ntmps11
  go_wp2_with fail
  generalize w.alloc (.cells (clkC f) 53) = w0 at *
  refine (clocked_any _).mono ?_
  rintro e w1 ⟨rfl, hk⟩
  replace hN := hN.below hk hN.lt
  replace hb0 := hb0.trans (hk.mono hb0.size)
  clear hk
  have hNl := hN.lt
  have hNl2 : w.heap.size < w1.heap.size + 1 := by omega
  have hbu : ∀ u v : Obj, Below w.heap.size w ((w1.alloc u).alloc v).drew := fun u v => ((hb0.alloc hb0.size u).alloc (by have := hb0.size; simp; omega) v).drew
  have HBU := Lib.hid hbu
  clear hbu
  obtain ⟨c0, c1, c2, c3, c4, c5⟩ := hN.clk
  go_upto_region 3 with fail
  go_cut [5, 6] (fun p q wz => ∃ B C : Nat, p = .pointer (some ⟨B, 0, none⟩) ∧ q = .pointer (some ⟨C, 0, none⟩) ∧ B ≠ C ∧ w.heap.size < B ∧ w.heap.size < C ∧ Has wz B (clkC f) 53 ∧ Has wz C (clkC f) 53 ∧ Has wz w.heap.size (clkC f) 53 ∧ Below w.heap.size w wz)
  case first =>
    go_region
    all_goals
      go_wp2
      go_meet
    · exact ⟨_, _, rfl, rfl, by omega, by omega, by omega, ((Has.new w1 (clkC f) 53).alloc _).drew, ((Has.new (w1.alloc _) (clkC f) 53).at (by simp)).drew, ((hN.alloc _).alloc _).drew, HBU.out _ _⟩
    · exact ⟨_, _, rfl, rfl, by omega, by omega, by omega, ((Has.new (w1.alloc _) (clkC f) 53).at (by simp)).drew, ((Has.new w1 (clkC f) 53).alloc _).drew, ((hN.alloc _).alloc _).drew, HBU.out _ _⟩
  case rest =>
    obtain ⟨B, C, rfl, rfl, hBC, hwB, hwC, hB, hC, hF, hb⟩ := hcut
    clear hN hb0 hNl hNl2 c0 c1 c2 c3 c4 c5 HBU
    have hlo : ∀ i, i < 6 → -9223372036854775808 ≤ f i := fun i hi => (hf i hi).1
    have HLO := Lib.hid hlo
    clear hlo
    go_wp2
    go_loopw [7, 23] (fun m i wr => ∃ k : Nat, k ≤ z.length ∧ i = .int .i64 k ∧ m = .int .i64 (tkN f (z.take k) : Nat) ∧ Has wr B (clkC (tkL f (z.take k))) 53 ∧ Has wr C (clkC (tkL f (z.reverse.take k))) 53 ∧ Has wr w.heap.size (clkC f) 53 ∧ Below w.heap.size w wr) (fun _ i _ => z.length - (intOf i).toNat)
    case atStart => exact ⟨0, Nat.zero_le _, rfl, rfl, hB, hC, hF, hb⟩
    case round =>
      clear hB hC hF hb
      obtain ⟨k, hk, rfl, rfl, hB, hC, hF, hb⟩ := hrel
      by_cases hlt : k < z.length
      · obtain ⟨m, hm⟩ : ∃ m : Nat, z.length - 1 - k = m := ⟨_, rfl⟩
        have hml : m < z.length := by omega
        obtain ⟨g, o, rfl, d0⟩ := (h0.below hb).at hlt
        have t1 : z.take (k + 1) = z.take k ++ [z[k]] := by rw [List.take_add_one, List.getElem?_eq_getElem hlt]; rfl
        have t2 : z.reverse.take (k + 1) = z.reverse.take k ++ [z[m]] := by
          rw [List.take_add_one, List.getElem?_eq_getElem (show k < z.reverse.length by simpa using hlt), List.getElem_reverse]
          simp only [hm]; rfl
        have n1 : tkN f (z.take (k + 1)) = tkN f (z.take k) + if tkOk (tkL f (z.take k)) z[k] then 1 else 0 := by rw [t1, tkN_snoc]
        have a1 : tkL f (z.take (k + 1)) = tkS (tkL f (z.take k)) z[k] := by rw [t1, tkL_snoc]
        have a2 : tkL f (z.reverse.take (k + 1)) = tkS (tkL f (z.reverse.take k)) z[m] := by rw [t2, tkL_snoc]
        have lo1 : ∀ i, i < 6 → -9223372036854775808 ≤ tkL f (z.take k) i := fun i hi => Int.le_trans (HLO.out i hi) (tkL_range _ f hi).1
        have lo2 : ∀ i, i < 6 → -9223372036854775808 ≤ tkL f (z.reverse.take k) i := fun i hi => Int.le_trans (HLO.out i hi) (tkL_range _ f hi).1
        have nl : tkN f (z.take k) ≤ z.length := by have := tkN_len (z.take k) f; simp at this; omega
        have hbig := h0.big
        have w1' : IntKind.i64.wrap ((z.length : Int) - 1) = (z.length : Int) - 1 := IntWalk.i64_in _ (by omega)
        have w2' : IntKind.i64.wrap ((z.length : Int) - 1 - k) = (m : Int) := by rw [IntWalk.i64_in _ (by omega)]; omega
        have w3' := IntWalk.i64_in ((tkN f (z.take k) : Int) + 1) (by omega)
        have m0 : (0 : Int) ≤ m := by omega
        have m1 : (m : Int) < z.length := by omega
        have N1 := Lib.hid n1
        have A1 := Lib.hid a1
        have A2 := Lib.hid a2
        clear t1 t2 n1 a1 a2 hm
        generalize tkL f (z.take k) = A at *
        generalize tkL f (z.reverse.take k) = D at *
        generalize tkN f (z.take k) = n at *
        generalize z[k] = x at *
        generalize hy : z[m] = y at *
        have HY := Lib.hid hy
        clear hy
        obtain ⟨c0, c1, c2, c3, c4, c5⟩ := hB.clk
        have s1 := tkS_eq A x
        have s2 := tkS_eq D y
        have z1 := tkE_zero A x
        have z2 := tkE_zero D y
        go_wp2_with fail
        refine (tick_any A x _ lo1).mono ?_
        rintro r w5 ⟨rfl, hk5⟩
        replace hB := hB.below hk5 hB.lt
        replace hC := hC.below hk5 hC.lt
        replace hF := hF.below hk5 hF.lt
        replace hb := hb.trans (hk5.mono hb.size)
        clear hk5 c0 c1 c2 c3 c4 c5 lo1 d0
        have hP := Has.new w5 (clkC (tkV A x)) 53
        have hBl := hB.lt
        have hCl := hC.lt
        replace hB := hB.alloc (.cells (clkC (tkV A x)) 53)
        replace hC := hC.alloc (.cells (clkC (tkV A x)) 53)
        replace hF := hF.alloc (.cells (clkC (tkV A x)) 53)
        replace hb := hb.alloc hb.size (.cells (clkC (tkV A x)) 53)
        have ht := tick_any D y
        have HT := Lib.hid ht
        generalize tkV A x = P at *
        generalize tkE A x = E1 at *
        generalize tkV D y = Q at *
        generalize tkE D y = E2 at *
        generalize tkOk A x = q1 at *
        generalize tkOk D y = q2 at *
        generalize tkS A x = A' at *
        generalize tkS D y = D' at *
        have S1 := Lib.hid s1
        have S2 := Lib.hid s2
        clear s1 s2 ht
        go_upto_region 9 with fail
        generalize hX : w5.heap.size = X at *
        clear hX
        generalize w5.alloc (.cells (clkC P) 53) = w6 at *
        obtain ⟨g', o', hgo, e0⟩ := (h0.below hb).at hml
        cases hgo
        rw [HY.out] at e0
        obtain ⟨c0, c1, c2, c3, c4, c5⟩ := hC.clk
        have hgl : g < w6.heap.size := block_lt_of_cell e0
        have hCl2 := hC.lt
        go_cut [12, 13] (fun p e wz => e = .int .i64 E2 ∧ ∃ R, p = .pointer (some ⟨R, 0, none⟩) ∧ R ≠ B ∧ R ≠ C ∧ Has wz R (clkC Q) 53 ∧ Has wz X (clkC P) 53 ∧ Has wz B (clkC A) 53 ∧ Has wz C (clkC D) 53 ∧ Has wz w.heap.size (clkC f) 53 ∧ Below w.heap.size w wz)
        case first =>
          go_region_law (first | (go_simp; go_at_call 33; refine (HT.out _ lo2).mono ?_; rintro r w7 ⟨rfl, hk7⟩; first | (have hZ := (Has.new w6 (clkC fun _ => 0) 53).drew.below hk7 (Has.new w6 (clkC fun _ => 0) 53).drew.lt; obtain ⟨y0, y1, y2, y3, y4, y5⟩ := hZ.clk; obtain ⟨v0, v1, v2, v3, v4, v5⟩ := hZ.clkFree) | skip))
          all_goals
            first
            | have jB := hB.drew.below hk7 hB.drew.lt
              have jC := hC.drew.below hk7 hC.drew.lt
              have jP := hP.drew.below hk7 hP.drew.lt
              have jF := hF.drew.below hk7 hF.drew.lt
              have jb := hb.drew.trans (hk7.mono hb.drew.size)
              have l1 := jB.lt
              have l2 := jC.lt
              go_wp2
              go_meet
              exact ⟨rfl, _, rfl, by omega, by omega, Has.new w7 (clkC Q) 53, jP.alloc _, jB.alloc _, jC.alloc _, jF.alloc _, jb.alloc jb.size _⟩
            | have jB := (hB.alloc (.cells (clkC fun _ => 0) 53)).drew.below hk7 (hB.alloc (.cells (clkC fun _ => 0) 53)).drew.lt
              have jC := (hC.alloc (.cells (clkC fun _ => 0) 53)).drew.below hk7 (hC.alloc (.cells (clkC fun _ => 0) 53)).drew.lt
              have jP := (hP.alloc (.cells (clkC fun _ => 0) 53)).drew.below hk7 (hP.alloc (.cells (clkC fun _ => 0) 53)).drew.lt
              have jF := (hF.alloc (.cells (clkC fun _ => 0) 53)).drew.below hk7 (hF.alloc (.cells (clkC fun _ => 0) 53)).drew.lt
              have ja := (hb.alloc hb.size (.cells (clkC fun _ => 0) 53)).drew
              have jb := ja.trans (hk7.mono ja.size)
              have l1 := hB.lt
              have l2 := hC.lt
              have l3 := hP.lt
              have l4 := hF.lt
              have l5 := hb.size
              clear y0 y1 y2 y3 y4 y5 v0 v1 v2 v3 v4 v5
              go_wp2
              go_meet
              exact ⟨rfl, _, rfl, by omega, by omega, hZ.set6 Q, jP.set6_ne (by omega) Q, jB.set6_ne (by omega) Q, jC.set6_ne (by omega) Q, jF.set6_ne (by omega) Q, below_set6 jb (by omega) Q⟩
        case rest =>
          obtain ⟨rfl, R, rfl, hRB, hRC, hQ, jP, jB, jC, jF, jb⟩ := hcut
          clear hP hB hC hF hb c0 c1 c2 c3 c4 c5 e0 hgl hCl2 HT lo2
          cases q1
          · have hA' : A' = A := by simpa using S1.out
            clear S1 jP
            subst hA'
            go_upto_region 13 with fail
            cases q2
            · have hD' : D' = D := by simpa using S2.out
              clear S2
              subst hD'
              clear hQ
              go_wp2
              go_roundw
              case rel => exact ⟨k + 1, by omega, by go_num, by rw [N1.out]; simp, by rw [A1.out]; exact jB, by rw [A2.out]; exact jC, jF, jb⟩
              case measure => (simp [intOf]; try omega)
            · have hD' : D' = Q := by simpa using S2.out
              clear S2
              subst hD'
              have jB2 := jB.set6_ne hBC D'
              have jC2 := jC.set6 D'
              have jF2 := jF.set6_ne (show w.heap.size ≠ C by omega) D'
              have jb2 := below_set6 jb (show w.heap.size ≤ C by omega) D'
              obtain ⟨c0, c1, c2, c3, c4, c5⟩ := hQ.clk
              obtain ⟨b0, b1, b2, b3, b4, b5⟩ := jC.clk
              obtain ⟨x0, x1, x2, x3, x4, x5⟩ := jC.clkFree
              clear hQ jB jC jF jb
              go_upto_region 15 with fail
              generalize (((((((wc).setCell _ _).setCell _ _).setCell _ _).setCell _ _).setCell _ _).setCell _ _) = w9 at *
              clear c0 c1 c2 c3 c4 c5 b0 b1 b2 b3 b4 b5 x0 x1 x2 x3 x4 x5
              go_wp2
              go_roundw
              case rel => exact ⟨k + 1, by omega, by go_num, by rw [N1.out]; simp, by rw [A1.out]; exact jB2, by rw [A2.out]; exact jC2, jF2, jb2⟩
              case measure => (simp [intOf]; try omega)
          · have hA' : A' = P := by simpa using S1.out
            clear S1
            subst hA'
            replace hQ := hQ.set6_ne hRB A'
            have jB2 := jB.set6 A'
            replace jC := jC.set6_ne (Ne.symm hBC) A'
            replace jF := jF.set6_ne (show w.heap.size ≠ B by omega) A'
            replace jb := below_set6 jb (show w.heap.size ≤ B by omega) A'
            obtain ⟨c0, c1, c2, c3, c4, c5⟩ := jP.clk
            obtain ⟨b0, b1, b2, b3, b4, b5⟩ := jB.clk
            obtain ⟨x0, x1, x2, x3, x4, x5⟩ := jB.clkFree
            clear jP jB
            have jB := jB2
            clear jB2
            go_upto_region 13 with fail
            generalize ((((((wc.setCell _ _).setCell _ _).setCell _ _).setCell _ _).setCell _ _).setCell _ _) = w8 at *
            clear c0 c1 c2 c3 c4 c5 b0 b1 b2 b3 b4 b5 x0 x1 x2 x3 x4 x5
            cases q2
            · have hD' : D' = D := by simpa using S2.out
              clear S2
              subst hD'
              clear hQ
              go_wp2
              go_roundw
              case rel => exact ⟨k + 1, by omega, by go_num, by rw [N1.out]; simp, by rw [A1.out]; exact jB, by rw [A2.out]; exact jC, jF, jb⟩
              case measure => (simp [intOf]; try omega)
            · have hD' : D' = Q := by simpa using S2.out
              clear S2
              subst hD'
              have jB2 := jB.set6_ne hBC D'
              have jC2 := jC.set6 D'
              have jF2 := jF.set6_ne (show w.heap.size ≠ C by omega) D'
              have jb2 := below_set6 jb (show w.heap.size ≤ C by omega) D'
              obtain ⟨c0, c1, c2, c3, c4, c5⟩ := hQ.clk
              obtain ⟨b0, b1, b2, b3, b4, b5⟩ := jC.clk
              obtain ⟨x0, x1, x2, x3, x4, x5⟩ := jC.clkFree
              clear hQ jB jC jF jb
              go_upto_region 15 with fail
              generalize (((((((w8).setCell _ _).setCell _ _).setCell _ _).setCell _ _).setCell _ _).setCell _ _) = w9 at *
              clear c0 c1 c2 c3 c4 c5 b0 b1 b2 b3 b4 b5 x0 x1 x2 x3 x4 x5
              go_wp2
              go_roundw
              case rel => exact ⟨k + 1, by omega, by go_num, by rw [N1.out]; simp, by rw [A1.out]; exact jB2, by rw [A2.out]; exact jC2, jF2, jb2⟩
              case measure => (simp [intOf]; try omega)
      · obtain rfl : k = z.length := by omega
        rw [List.take_length] at hB
        rw [show z.reverse.take z.length = z.reverse by rw [show z.length = z.reverse.length by simp, List.take_length]] at hC
        have hsum : pS (tkL f z) f 6 = tkN f z := by rw [pS_six, tkN_sum]; omega
        have hin := fun k hk => pS_in f z k hk
        have hps := fun k => show pS (tkL f z) f (k + 1) = pS (tkL f z) f k + (tkL f z k - f k) from rfl
        have hrg := fun k (hk : k < 6) => tkL_range z f hk
        have hnl := tkN_len z f
        have hceq : ceq (tkL f z) (tkL f z.reverse) = true := tkL_perm (fun i => by simp) f
        have hz8' : z.length * 8 ≤ 140737488351232 := hz8
        have HS := Lib.hid hsum
        have HIN := Lib.hid hin
        have HPS := Lib.hid hps
        have HRG := Lib.hid hrg
        have hEQ : ∀ W, (binOp .eql 53 (clkV (tkL f z)) (clkV (tkL f z.reverse))).run Try.prog W = .ok (.bool true) W := fun W => by rw [eql_clk, hceq]
        clear hsum hin hps hrg hceq
        rw [List.take_length]
        generalize tkN f z = n at *
        generalize tkL f z = A at *
        generalize tkL f z.reverse = D at *
        obtain ⟨b0, b1, b2, b3, b4, b5⟩ := hB.clk
        obtain ⟨w4, rfl⟩ : ∃ q : World, q = wr := ⟨_, rfl⟩
        go_wp2
        go_loopw [14, 57] (fun v i wx => ∃ k : Nat, k ≤ 6 ∧ i = .int .i64 k ∧ v = .int .i64 (pS A f k) ∧ wx = w4) (fun _ i _ => 6 - (intOf i).toNat)
        case atStart => exact ⟨0, Nat.zero_le _, rfl, rfl, rfl⟩
        case round =>
          obtain ⟨k, hk, rfl, rfl, rfl⟩ := hrel
          by_cases hk6 : k < 6
          · have hix := clk_idx A hk6
            have d0 := hF.cell (clkC_get f k hk6)
            have i1 := HIN.out k hk
            have i2 := HIN.out (k + 1) hk6
            have i3 := HRG.out k hk6
            have i4 := HPS.out k
            have hkz : (k : Int) * z.length ≤ 6 * z.length := Int.mul_le_mul_of_nonneg_right (by omega) (by omega)
            have hkz2 : ((k + 1 : Nat) : Int) * z.length ≤ 6 * z.length := Int.mul_le_mul_of_nonneg_right (by omega) (by omega)
            have hw1 : IntKind.i64.wrap (A k - f k) = A k - f k := IntWalk.i64_in _ (by omega)
            have hw2 : IntKind.i64.wrap (pS A f k + (A k - f k)) = pS A f (k + 1) := by rw [IntWalk.i64_in _ (by omega), i4]
            have k0 : (0 : Int) ≤ k := by omega
            have k6 : (k : Int) < 6 := by omega
            clear i1 i2 i3 i4 hkz hkz2 b0 b1 b2 b3 b4 b5
            generalize A k = x at *
            go_wp2
            go_roundw
            case rel => exact ⟨k + 1, by omega, by go_num, rfl, trivial⟩
            case measure => (simp [intOf]; try omega)
          · obtain rfl : k = 6 := by omega
            rw [HS.out]
            obtain ⟨d0, d1, d2, d3, d4, d5⟩ := hC.clk
            clear HIN HRG HPS hF
            go_wp2
            go_ret
            exact ⟨rfl, hb⟩
/-! The frame of the law ClockCounts, by program. -/
set_option maxRecDepth 100000 in
theorem clockCounts_lifted (os : Os) (started : os.Started) (H : Type) (enc : TypeId × Value → H) :
    ReturnsInHanded {} Try.checked os 11 .any (Rows.clockCountsSpec.pre6 enc Try.prog Try.f11 Rows.clockCountsRow.domain false) (Rows.clockCountsSpec.post enc Try.prog Try.f11 false true false false) := by
  refine returnsInHanded_of_change_shaped (C := Try.checked) frame_own started (by kernel_rfl) Try.func11
    (ChangeSpec.witness6 (enc := enc) (C := Try.checked) false ⟨#[], #[.agg #[.int .i64 0, .int .i64 0, .int .i64 0, .int .i64 0, .int .i64 0, .int .i64 0], .slice none 0 0], []⟩ 8 (by kernel_rfl) (by kernel_rfl) (by kernel_rfl) (by kernel_rfl)) ?_
  intro W base args ds gs before hval0 hW hcnd hsz hshaped hroom
  clear hcnd hshaped
  have hval : ∀ (j : Nat) t v, Try.f11.params[j]? = some t → args[j]? = some v → Value.okWide Try.prog W .any base t v := hval0
  have hW' := hW
  obtain ⟨p, q, hA0, hV, rfl, hfz, hnd⟩ := hW
  have hA : DataW.TrodAll enc Try.prog W 0 (fun _ => true) true Try.f11.params.toList args.toList ds p := hA0
  rw [Try.params11] at hA hval
  obtain ⟨v0, vs0, d0, ds0, p0, q0, hargs, rfl, rfl, h0, r0⟩ := trodAll_cons hA
  obtain ⟨v1, vs1, d1, ds1, p1, q1, rfl, rfl, rfl, h1, r1⟩ := trodAll_cons r0
  obtain ⟨rfl, rfl, rfl⟩ := trodAll_nil r1
  obtain rfl : args = #[v0, v1] := by cases args; simp_all
  obtain ⟨rfl, rfl⟩ := trodVars_none hV
  have k0 := h0
  have lt0 : ∀ x ∈ p0, x.block < W.heap.size := by obtain ⟨m, hm⟩ := k0; exact DataW.trod_lt m _ _ _ hm
  obtain ⟨a0, rfl, w0⟩ := open_clk Try.underlying53 Try.underlying3 clk_cells (by kernel_rfl) (hval 0 53 v0 rfl rfl) h0
  have k1 := h1
  have lt1 : ∀ x ∈ p1, x.block < W.heap.size := by obtain ⟨m, hm⟩ := k1; exact DataW.trod_lt m _ _ _ hm
  obtain ⟨a1, z1, c1, rfl, w1⟩ := open_ints (hval 1 57 v1 rfl rfl) h1 (fun els sp hd => sized_slice hsz (j := 1) rfl (by rw [hd]; rfl) Try.underlying57)
  clear hA0 hval0
  refine (clockCounts_walk a0 a1 z1 c1 W w0 w1).mono fun e W' ⟨he, bel⟩ => ?_
  subst he
  exact ⟨_, rfl, _, _, _, [], _, [], hW', trodAll_mk1 (shut_bool Try.underlying4 _), (trodAll_cons_mk (Below.trod frame_laid (by kernel_rfl) (of_decide_eq_true (by kernel_rfl)) k0 bel lt0) (trodAll_cons_mk (Below.trod frame_laid (by kernel_rfl) (of_decide_eq_true (by kernel_rfl)) k1 bel lt1) trodAll_mk0)), rfl, bel.frame _, fun h => by cases h⟩

theorem clockCounts_over : Rows.clockCountsRow.holds Try.pinned (OpenSpec.ofChange Rows.clockCountsSpec) :=
  OpenClaim.holds_of_wide 11 Try.f11 rfl rfl rfl rfl rfl rfl rfl ⟨rfl, rfl, rfl, rfl, rfl⟩ rfl rfl rfl rfl rfl (by kernel_rfl) Try.func11 (by kernel_rfl)
    (of_decide_eq_true (by kernel_rfl)) (by unfold Func.isWrapper; first | (rw [if_pos (by decide +kernel)]; kernel_rfl) | (rw [if_neg (by decide +kernel)]; exact ⟨rfl, rfl⟩))
    (fun os started H enc _ => clockCounts_lifted os started H enc)

/-- The statement. -/
theorem clockCounts_holds : Rows.ClockCountsSaid := clockCounts_over

end Go.Proofs.Ytamjibnebofkfaa
