/- Rank: contract. -/
import Derived.Test.YtjpopjjjnaapnaaRgD
import Derived.Test.YtjpopjjjnaapnaaRgP
import Derived.Test.YtjpopjjjnaapnaaRowI
import Derived.Deep.DeepCutAuto
import Derived.Deep.RegionLaw
namespace Go.Proofs.Ytjpopjjjnaapnaa
open Go.RowKit

/-- One step, one row, one round of ranks. -/
def stepR (E : Nat → Nat → Bool) (o : Nat → Int) (a b : Nat) : Nat → Int := if E a b then fun i => if i = b then (if o b ≤ o a + 1 then o a + 1 else o b) else o i else o
def rowR (E : Nat → Nat → Bool) (a : Nat) (o : Nat → Int) : Nat → Nat → Int
  | 0 => o
  | b + 1 => stepR E (rowR E a o b) a b
def roundR (E : Nat → Nat → Bool) (o : Nat → Int) : Nat → Nat → Int
  | 0 => o
  | a + 1 => rowR E a (roundR E o a) 5
def rankR (E : Nat → Nat → Bool) : Nat → Nat → Int
  | 0 => fun _ => 0
  | r + 1 => roundR E (rankR E r) 5
def UptoR (o : Nat → Int) (m : Nat) : Prop := ∀ i, i < 5 → 0 ≤ o i ∧ o i ≤ m
theorem UptoR.step {E : Nat → Nat → Bool} {o : Nat → Int} {m : Nat} (h : UptoR o m) {a b : Nat} (ha : a < 5) : UptoR (stepR E o a b) (m + 1) := by
  intro i hi
  obtain ⟨h1, h2⟩ := h i hi
  obtain ⟨h3, h4⟩ := h a ha
  unfold stepR
  split
  · dsimp only
    split
    · rename_i e
      subst e
      split <;> omega
    · omega
  · omega
theorem UptoR.row {E : Nat → Nat → Bool} {o : Nat → Int} {m : Nat} (h : UptoR o m) {a : Nat} (ha : a < 5) : ∀ b, UptoR (rowR E a o b) (m + b)
  | 0 => h
  | b + 1 => (UptoR.row h ha b).step ha
theorem UptoR.round {E : Nat → Nat → Bool} {o : Nat → Int} {m : Nat} (h : UptoR o m) : ∀ a, a ≤ 5 → UptoR (roundR E o a) (m + a * 5)
  | 0, _ => by rw [Nat.zero_mul, Nat.add_zero]; exact h
  | a + 1, ha => by
    have := (UptoR.round (E := E) h a (by omega)).row (E := E) (a := a) (by omega) 5
    rw [show m + (a + 1) * 5 = m + a * 5 + 5 by omega]
    exact this
theorem uptoR_rank (E : Nat → Nat → Bool) : ∀ r, UptoR (rankR E r) (r * 25)
  | 0 => fun _ _ => by simp [rankR]
  | r + 1 => by
    have := (uptoR_rank E r).round (E := E) 5 (by omega)
    rw [show (r + 1) * 25 = r * 25 + 5 * 5 by omega]
    exact this
abbrev z5 : Array Value := #[.int .i64 0, .int .i64 0, .int .i64 0, .int .i64 0, .int .i64 0]
theorem make_five (W : World) : (Instr.makeSlice 25 (.int .i64 5) (.int .i64 5)).run Try.prog W = .ok (.slice (some ⟨W.heap.size, 0, none⟩) 5 5) (W.alloc (.cells z5 3)) := by kernel_rfl
/-- Ranks, or none. -/
def RankPost (E : Nat → Nat → Bool) (w : World) (r : Ending) (w' : World) : Prop :=
  Below w.heap.size w w' ∧ (ringP E ≠ [] ∧ r = .returned (.tuple #[.slice none 0 0, .int .i64 5]) ∨ ringP E = [] ∧ ∃ g, r = .returned (.tuple #[.slice (some ⟨g, 0, none⟩) 5 5, .int .i64 0]) ∧ Has w' g (rowI 5 (rankR E 5)) 3)
set_option maxRecDepth 100000 in
set_option maxHeartbeats 8000000 in
theorem rank_ok (p : List (Int × Int)) (a : Option Addr) (c : Nat) (w : World) (h : PrS w a p) (hp : okPr p) :
    Calls Try.prog 21 #[.slice a p.length c] w (RankPost (edgeP p) w) := by
  go_enter Try.func21, Try.ntmps21
  go_wp2_with fail
  refine (read_ok p a c _ h hp).mono ?_
  rintro r w1 ⟨rfl, hG, hb⟩
  generalize edgeP p = E at *
  clear h hp
  go_wp2_with fail
  refine (ring_any _ _ _ hG).mono ?_
  rintro r w2 ⟨a2, c2, rfl, hI, hnil, _, hk⟩
  replace hG := hG.below hk hG.lt
  replace hb := hb.trans (hk.mono hb.size)
  have hGb : w.heap.size < w2.heap.size := hG.lt
  clear hk
  by_cases hL : ringP E = []
  · obtain ⟨rfl, rfl⟩ := hnil hL
    rw [hL]
    have HL := Lib.hid hL
    have hnz := nz_int
    clear hnil hI hL
    have hmk := make_five w2
    have hO : Has (w2.alloc (.cells z5 3)) w2.heap.size (rowI 5 (rankR E 0)) 3 := (Has.new w2 z5 3).to rfl
    have hG2 := hG.alloc (.cells z5 3)
    have hb2 := hb.alloc hb.size (.cells z5 3)
    have hgG : w.heap.size ≠ w2.heap.size := by omega
    have hgb : w.heap.size ≤ w2.heap.size := by omega
    clear hb hG
    generalize w2.alloc (.cells z5 3) = w3 at *
    generalize w2.heap.size = g at *
    go_wp2
    clear hmk
    go_loopw [23] (fun i wr => ∃ r : Nat, r ≤ 5 ∧ i = .int .i64 r ∧ Has wr g (rowI 5 (rankR E r)) 3 ∧ Has wr w.heap.size (grC E) 90 ∧ Below w.heap.size w wr) (fun i _ => 5 - (intOf i).toNat)
    case atStart => exact ⟨0, Nat.zero_le _, rfl, hO, hG2, hb2⟩
    case round =>
      clear hO hG2 hb2
      obtain ⟨r, hr, rfl, hO, hG, hb⟩ := hrel
      by_cases hr5 : r < 5
      · have hrd : decide ((r : Int) < 5) = true := decide_eq_true (by omega)
        have HU := Lib.hid (uptoR_rank E r)
        have HR := Lib.hid (show rankR E (r + 1) = roundR E (rankR E r) 5 from rfl)
        generalize rankR E r = o1 at *
        have hO1 : Has wr g (rowI 5 (roundR E o1 0)) 3 := hO
        clear hO
        go_wp2
        go_loopw [27] (fun i wr => ∃ a : Nat, a ≤ 5 ∧ i = .int .i64 a ∧ Has wr g (rowI 5 (roundR E o1 a)) 3 ∧ Has wr w.heap.size (grC E) 90 ∧ Below w.heap.size w wr) (fun i _ => 5 - (intOf i).toNat)
        case atStart => exact ⟨0, Nat.zero_le _, rfl, hO1, hG, hb⟩
        case round =>
          clear hO1 hG hb
          obtain ⟨a, ha, rfl, hO, hG, hb⟩ := hrel
          by_cases ha5 : a < 5
          · have had : decide ((a : Int) < 5) = true := decide_eq_true (by omega)
            have HU2 := Lib.hid (HU.out.round (E := E) a (by omega))
            have HR2 := Lib.hid (show roundR E o1 (a + 1) = rowR E a (roundR E o1 a) 5 from rfl)
            generalize roundR E o1 a = o2 at *
            have hgs := fun j (hj : j < 5) => hG.cell (grC_get E ha5 hj)
            obtain ⟨g0, g1, g2, g3, g4⟩ : _ ∧ _ ∧ _ ∧ _ ∧ _ := ⟨hgs 0 (by omega), hgs 1 (by omega), hgs 2 (by omega), hgs 3 (by omega), hgs 4 (by omega)⟩
            rw [Nat.add_zero] at g0
            clear hgs
            have hGl := hG.lt
            have hOl := hO.lt
            have a0 : (0 : Int) ≤ a := by omega
            have a5 : (a : Int) < 5 := by omega
            have hw := IntWalk.i64_in ((a : Int) + 1) (by omega)
            go_upto_region 11 with fail
            go_region
            have hX : Has (wr.alloc (.cells #[.bool (E a 0), .bool (E a 1), .bool (E a 2), .bool (E a 3), .bool (E a 4)] 67)) wr.heap.size #[.bool (E a 0), .bool (E a 1), .bool (E a 2), .bool (E a 3), .bool (E a 4)] 67 := Has.new wr _ _
            have hX2 := hX.drew
            have hO2 := (hO.alloc (.cells #[.bool (E a 0), .bool (E a 1), .bool (E a 2), .bool (E a 3), .bool (E a 4)] 67)).drew
            have hG2 := (hG.alloc (.cells #[.bool (E a 0), .bool (E a 1), .bool (E a 2), .bool (E a 3), .bool (E a 4)] 67)).drew
            have hb2 := (hb.alloc hb.size (.cells #[.bool (E a 0), .bool (E a 1), .bool (E a 2), .bool (E a 3), .bool (E a 4)] 67)).drew
            have hrow : ∀ k : Nat, k < 5 → ∀ W : World, (Instr.index 67 (.agg #[.bool (E a 0), .bool (E a 1), .bool (E a 2), .bool (E a 3), .bool (E a 4)]) (.int .i64 (k : Int))).run Try.prog W = .ok (.bool (E a k)) W := fun k hk W => idx5b (E a) hk W
            have HROW := Lib.hid hrow
            obtain ⟨x0, x1, x2, x3, x4⟩ : _ ∧ _ ∧ _ ∧ _ ∧ _ := ⟨hX2.cell (i := 0) rfl, hX2.cell (i := 1) rfl, hX2.cell (i := 2) rfl, hX2.cell (i := 3) rfl, hX2.cell (i := 4) rfl⟩
            clear hX hX2 hO hG hb g0 g1 g2 g3 g4 hGl hOl hrow
            generalize (wr.alloc (.cells #[.bool (E a 0), .bool (E a 1), .bool (E a 2), .bool (E a 3), .bool (E a 4)] 67)).drew = w5 at *
            go_wp2
            clear x0 x1 x2 x3 x4
            generalize #[Value.bool (E a 0), Value.bool (E a 1), Value.bool (E a 2), Value.bool (E a 3), Value.bool (E a 4)] = rowV at *
            have hO1 : Has w5 g (rowI 5 (rowR E a o2 0)) 3 := hO2
            clear hO2
            go_loopw [34] (fun i wr => ∃ b : Nat, b ≤ 5 ∧ i = .int .i64 b ∧ Has wr g (rowI 5 (rowR E a o2 b)) 3 ∧ Has wr w.heap.size (grC E) 90 ∧ Below w.heap.size w wr) (fun i _ => 5 - (intOf i).toNat)
            case atStart => exact ⟨0, Nat.zero_le _, rfl, hO1, hG2, hb2⟩
            case round =>
              clear hO1 hG2 hb2
              obtain ⟨b, hb5', rfl, hO, hG, hb⟩ := hrel
              by_cases hb5 : b < 5
              · have hbd : decide ((b : Int) < 5) = true := decide_eq_true (by omega)
                have hix := HROW.out b hb5
                have HU3 := Lib.hid (HU2.out.row (E := E) ha5 b)
                have HR3 := Lib.hid (show rowR E a o2 (b + 1) = stepR E (rowR E a o2 b) a b from rfl)
                generalize rowR E a o2 b = o3 at *
                obtain ⟨q, hq⟩ : ∃ q, E a b = q := ⟨_, rfl⟩
                rw [hq] at hix
                cases q
                · have HE := Lib.hid (show o3 = rowR E a o2 (b + 1) by rw [HR3.out]; simp [stepR, hq])
                  rw [HE.out] at hO
                  clear HU3 HR3 HE hq
                  go_wp2
                  go_roundw
                  case rel => exact ⟨b + 1, by omega, by go_num, hO, hG, hb⟩
                  case measure => (simp [intOf]; try omega)
                · obtain ⟨hA0, hA1⟩ := HU3.out a ha5
                  obtain ⟨hB0, hB1⟩ := HU3.out b hb5
                  have ca := hO.cell (rowI_get 5 o3 ha5)
                  have cb := hO.cell (rowI_get 5 o3 hb5)
                  have hwa := IntWalk.i64_in (o3 a + 1) (by omega)
                  have b0 : (0 : Int) ≤ b := by omega
                  have b5 : (b : Int) < 5 := by omega
                  have hf := hO.free b
                  have HE := Lib.hid (show rowR E a o2 (b + 1) = fun i => if i = b then (if o3 b ≤ o3 a + 1 then o3 a + 1 else o3 b) else o3 i by rw [HR3.out]; simp [stepR, hq])
                  clear HU3 HR3 hq
                  obtain ⟨A, eA⟩ : ∃ A, o3 a = A := ⟨_, rfl⟩
                  obtain ⟨B, eB⟩ : ∃ B, o3 b = B := ⟨_, rfl⟩
                  rw [eA] at ca hwa hA0 hA1 HE
                  rw [eB] at cb hB0 hB1 HE
                  by_cases hm : A + 1 ≤ B
                  · go_upto_region 16 with fail
                    go_region
                    all_goals
                      have hO3 : Has _ g (rowI 5 (rowR E a o2 (b + 1))) 3 := ((hO.setCell b (.int .i64 B)).drew).to ((rowI_set 5 o3 b B).trans (by rw [HE.out]; exact congrArg (rowI 5) (funext fun i => by by_cases hi : i = b <;> simp only [hi, if_true, if_false]; split <;> omega)))
                      have hG3 := ((hG.setCell_ne (a := ⟨g, b, none⟩) hgG (.int .i64 B)).drew)
                      have hb3 := (hb.setCell (show w.heap.size ≤ (⟨g, b, none⟩ : Addr).block from hgb) (.int .i64 B)).drew
                      clear ca cb hf hO hG hb HE
                      go_wp2
                      go_roundw
                      case rel => exact ⟨b + 1, by omega, by go_num, hO3, hG3, hb3⟩
                      case measure => (simp [intOf]; try omega)
                  · go_upto_region 16 with fail
                    go_region
                    all_goals
                      have hO3 : Has _ g (rowI 5 (rowR E a o2 (b + 1))) 3 := ((hO.setCell b (.int .i64 (A + 1))).drew).to ((rowI_set 5 o3 b (A + 1)).trans (by rw [HE.out]; exact congrArg (rowI 5) (funext fun i => by by_cases hi : i = b <;> simp only [hi, if_true, if_false]; split <;> omega)))
                      have hG3 := ((hG.setCell_ne (a := ⟨g, b, none⟩) hgG (.int .i64 (A + 1))).drew)
                      have hb3 := (hb.setCell (show w.heap.size ≤ (⟨g, b, none⟩ : Addr).block from hgb) (.int .i64 (A + 1))).drew
                      clear ca cb hf hO hG hb HE
                      go_wp2
                      go_roundw
                      case rel => exact ⟨b + 1, by omega, by go_num, hO3, hG3, hb3⟩
                      case measure => (simp [intOf]; try omega)
              · obtain rfl : b = 5 := by omega
                have hO3 : Has wr g (rowI 5 (roundR E o1 (a + 1))) 3 := by rw [HR2.out]; exact hO
                clear hO HROW
                go_wp2
                go_roundw
                case rel => exact ⟨a + 1, by omega, by go_num, hO3, hG, hb⟩
                case measure => (simp [intOf]; try omega)
          · obtain rfl : a = 5 := by omega
            have hO3 : Has wr g (rowI 5 (rankR E (r + 1))) 3 := by rw [HR.out]; exact hO
            clear hO
            go_wp2
            go_roundw
            case rel => exact ⟨r + 1, by omega, by go_num, hO3, hG, hb⟩
            case measure => (simp [intOf]; try omega)
      · obtain rfl : r = 5 := by omega
        go_wp2
        go_ret2
        exact ⟨hb, .inr ⟨HL.out, g, rfl, hO⟩⟩
  · obtain ⟨b4, o4, rfl⟩ : ∃ b o, a2 = some ⟨b, o, none⟩ := by
      rcases hI.ok with h0 | ⟨b, o, ha, _⟩
      · exact absurd h0 hL
      · exact ⟨b, o, ha⟩
    have hnn2 := nn_int b4 o4 (ringP E).length c2
    have HL := Lib.hid hL
    clear hnil hL
    go_wp2
    go_ret2
    exact ⟨hb, .inl ⟨HL.out, rfl⟩⟩
end Go.Proofs.Ytjpopjjjnaapnaa
