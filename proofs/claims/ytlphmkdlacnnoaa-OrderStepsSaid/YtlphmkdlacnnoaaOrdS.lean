/- Contract of order.Direct: the pairs that are directly ahead. -/
import Derived.Test.YtlphmkdlacnnoaaOrdE
import Derived.Test.YtlphmkdlacnnoaaOrdT
import Derived.Deep.RegionLaw
namespace Go.Proofs.Ytlphmkdlacnnoaa
open Go.RowKit

set_option maxHeartbeats 4000000 in
theorem pairs_direct (x : Value) (H : Nat → Nat → Bool) (l : List Ev) (a : Option Addr) (c : Nat) (w : World) (hl : l.length ≤ 80)
    (HF : ∀ (i j : Nat) (W : World), Below w.heap.size w W → i < j → j < l.length → Calls Try.prog 32 #[.int .i64 i, .int .i64 j, x] W fun r W' => r = .returned (.bool (H i j)) ∧ Below W.heap.size W W') :
    Calls Try.prog 31 #[.slice a l.length c, .func (.func 32) #[] #[x]] w (PrsPost (allP H l.length l.length) w) := by
  obtain ⟨i0, hi, hz0, hz1, hz2⟩ := info_parts infoP
  have HFF := Lib.hid HF
  clear HF
  go_enter Try.func31, Try.ntmps31
  go_wp2
  go_loopw [5, 10] (fun v i wr => ∃ k : Nat, k ≤ l.length ∧ i = .int .i64 k ∧ wr.ownsRow w.heap.size 28 2 v (allP H l.length k).length (prL (allP H l.length k)) ∧ Below w.heap.size w wr) (fun _ i _ => l.length - (intOf i).toNat)
  case atStart => exact ⟨0, Nat.zero_le _, rfl, World.ownsRow_nil _ _ _ _, Below.refl _ _⟩
  case round =>
    obtain ⟨k, hk, rfl, hown, hb⟩ := hrel
    obtain ⟨wo, rfl⟩ : ∃ wo : World, wo = wr := ⟨_, rfl⟩
    by_cases hlt : k < l.length
    · go_wp2
      go_loopw [5, 7] (fun v j wr => ∃ m : Nat, k < m ∧ m ≤ l.length ∧ j = .int .i64 m ∧ wr.ownsRow w.heap.size 28 2 v (allP H l.length k ++ rowP H k m).length (prL (allP H l.length k ++ rowP H k m)) ∧ Below w.heap.size w wr) (fun _ j _ => l.length - (intOf j).toNat)
      case atStart => exact ⟨k + 1, by omega, by omega, by go_num, by rw [rowP_start, List.append_nil]; exact hown, hb⟩
      case round =>
        clear hown hb
        obtain ⟨m, hkm, hm, rfl, hown, hb⟩ := hrel
        by_cases hml : m < l.length
        · have hlen : (allP H l.length k ++ rowP H k m).length ≤ 6480 := by
            rw [List.length_append]
            have h1 := allP_len H l.length k
            have h2 := rowP_len H k m
            have h3 : k * l.length ≤ 80 * 80 := Nat.mul_le_mul (by omega) hl
            omega
          cases hH : H k m
          · have hr := rowP_no H k m hH
            have HR := Lib.hid hr
            clear hr
            go_wp2_with fail
            refine (HFF.out k m _ hb hkm hml).mono ?_
            rintro r w3 ⟨rfl, hq⟩
            rw [hH]
            have ho := own_below hown hq
            have hb3 := hb.trans (hq.mono hb.size)
            clear hown hb hq hH
            go_wp2
            go_roundw
            case rel => exact ⟨m + 1, by omega, by omega, by go_num, by rw [HR.out]; exact ho, hb3⟩
            case measure => (simp [intOf]; try omega)
          · have hr := rowP_yes H k m hkm hH
            have HR := Lib.hid hr
            clear hr
            go_wp2_with fail
            refine (HFF.out k m _ hb hkm hml).mono ?_
            rintro r w3 ⟨rfl, hq⟩
            rw [hH]
            have ho := own_below hown hq
            have hb3 := hb.trans (hq.mono hb.size)
            have hs3 := hb3.size
            clear hown hb hq hH
            have hN := Has.new w3 (prC ((k : Int), (m : Int))) 28
            have hb4 := hb3.alloc hs3 (.cells (prC ((k : Int), (m : Int))) 28)
            go_wp2_with (at_builtin; refine app_list _ rfl (.tmp 25) (.tmp 29) 32 rfl Try.underlying32 hi hz0 hz1 hz2 rfl (by decide) rfl (ho.alloc _) rfl (news := prL [((k : Int), (m : Int))]) ⟨rfl, .inr ⟨_, rfl, fun j u hu => hN.cell_add (by simpa [prL] using hu)⟩⟩ (prL_one _) ?c3 ?c4 ?c5 ?_)
            case c3 => unfold maxLen; omega
            case c4 => omega
            case c5 => simp; omega
            intro v' w4 hA
            have hb5 := hA.below (ho.alloc _) hb4 (by simp; omega)
            have ho5 : w4.ownsRow w.heap.size 28 2 v' (allP H l.length k ++ rowP H k (m + 1)).length (prL (allP H l.length k ++ rowP H k (m + 1))) := by
              have := hA.own
              rw [HR.out, ← List.append_assoc, prL_append _ [((k : Int), (m : Int))], List.length_append, List.length_append]
              exact this
            clear hA ho hN hb4 hb3 hs3
            go_wp2
            go_roundw
            case rel => exact ⟨m + 1, by omega, by omega, by go_num, ho5, hb5⟩
            case measure => (simp [intOf]; try omega)
        · obtain rfl : m = l.length := by omega
          have ha := allP_succ H l.length k
          have HA := Lib.hid ha
          clear ha
          go_wp2
          go_roundw
          case rel => exact ⟨k + 1, by omega, by go_num, by rw [HA.out]; exact hown, hb⟩
          case measure => (simp [intOf]; try omega)
    · obtain rfl : k = l.length := by omega
      go_wp2
      go_ret
      exact ⟨_, rfl, hown, hb⟩

/-- The box of a slice's header. -/
theorem direct1_any (l : List Ev) (i j b : Nat) (a : Option Addr) (c : Nat) (w : World) (hb : Has w b #[.slice a l.length c] 22) (h : EvS w a l) (hi : i < l.length) (hj : j < l.length) :
    Calls Try.prog 32 #[.int .i64 i, .int .i64 j, .pointer (some ⟨b, 0, none⟩)] w fun r w' => r = .returned (.bool (dirE (evAt l i) (evAt l j))) ∧ Below w.heap.size w w' := by
  have e1 : evAt l i = l[i] := by simp [evAt, hi]
  have e2 : evAt l j = l[j] := by simp [evAt, hj]
  rw [e1, e2]
  clear e1 e2
  have c0 : w.cell? ⟨b, 0, none⟩ = some (.slice a l.length c) := hb.cell rfl
  obtain ⟨b1, o1, rfl, x0, x1, x2⟩ := h.at hi
  obtain ⟨b2, o2, hbo, y0, y1, y2⟩ := h.at hj
  cases hbo
  have i0 : (0 : Int) ≤ i := by omega
  have i1 : (i : Int) < l.length := by omega
  have j0 : (0 : Int) ≤ j := by omega
  have j1 : (j : Int) < l.length := by omega
  generalize l[i] = x at *
  generalize l[j] = y at *
  have hbig := h.big
  go_enter Try.func32, Try.ntmps32
  go_wp2_with fail
  have hd := (Below.refl w.heap.size w).drew
  go_region_law (first | (go_simp; go_at_call 33; refine (directly_any x y _).mono ?_; rintro r w2 ⟨rfl, hk⟩))
  all_goals
    go_wp2
    go_ret
    exact ⟨rfl, hd.trans hk⟩

/-- The answer of Direct. -/
def dirL (l : List Ev) : List (Int × Int) := allP (fun i j => dirE (evAt l i) (evAt l j)) l.length l.length
theorem mem_dirL {l : List Ev} {p : Int × Int} : p ∈ dirL l ↔ ∃ i j : Nat, p = ((i : Int), (j : Int)) ∧ i < j ∧ j < l.length ∧ dirE (evAt l i) (evAt l j) = true := mem_allP
theorem direct_err (l : List Ev) (a : Option Addr) (c : Nat) (w : World) (h : EvS w a l) (he : (played l).2.2 ≠ 0) :
    Calls Try.prog 18 #[.slice a l.length c] w fun r w' => r = .returned (.tuple #[.slice none 0 0, .int .i64 (played l).2.2]) ∧ Below w.heap.size w w' := by
  have e2 : ((played l).2.2 != 0) = true := by simpa using he
  go_enter Try.func18, Try.ntmps18
  go_wp2_with fail
  have hb1 := (Below.refl w.heap.size w).alloc (Nat.le_refl _) (.cells #[.slice a l.length c] 22)
  refine (check_any l a c _ (h.below hb1)).mono ?_
  rintro r w1 ⟨rfl, hb⟩
  go_wp2
  go_ret2
  exact ⟨rfl, hb1.trans (hb.mono hb1.size)⟩
theorem direct_ok (l : List Ev) (a : Option Addr) (c : Nat) (w : World) (h : EvS w a l) (he : (played l).2.2 = 0) :
    Calls Try.prog 18 #[.slice a l.length c] w (BefPost (dirL l) w) := by
  obtain ⟨hl80, _⟩ := played_evs he
  have HE := Lib.hid he
  clear he
  go_enter Try.func18, Try.ntmps18
  go_wp2_with fail
  have hN := Has.new w #[.slice a l.length c] 22
  have hb1 := (Below.refl w.heap.size w).alloc (Nat.le_refl _) (.cells #[.slice a l.length c] 22)
  refine (check_any l a c _ (h.below hb1)).mono ?_
  rintro r w1 ⟨rfl, hb⟩
  rw [HE.out]
  replace hN := hN.below hb hN.lt
  have hb2 := hb1.trans (hb.mono hb1.size)
  replace h := h.below hb2
  have c0 : w1.cell? ⟨w.heap.size, 0, none⟩ = some (.slice a l.length c) := hN.cell rfl
  go_wp2_with fail
  refine (pairs_direct (.pointer (some ⟨w.heap.size, 0, none⟩)) (fun i j => dirE (evAt l i) (evAt l j)) l a c _ hl80 ?_).mono ?_
  · intro i j W hW hij hj
    exact direct1_any l i j w.heap.size a c W (hN.below hW hN.lt) (h.below hW) (by omega) hj
  rintro r w3 ⟨v, rfl, hown, hq⟩
  have hb3 := hb2.trans (hq.mono hb2.size)
  go_wp2
  go_ret2
  exact ⟨v, rfl, own_low hown hb2.size, hb3⟩
end Go.Proofs.Ytlphmkdlacnnoaa
