/- Contracts of package order: pairs. -/
import Derived.Test.YtmeidjhojanogaaOrdC
import Derived.Test.YtmeidjhojanogaaPrs
namespace Go.Proofs.Ytmeidjhojanogaa
open Go.RowKit

theorem infoP : (Try.prog.info? 74).map (fun i => (i.zero, i.size, i.bytes)) = some (some (prV (0, 0)), 2, 16) := by kernel_rfl
def PrsPost (L : List (Int × Int)) (w : World) (r : Ending) (w' : World) : Prop := ∃ v, r = .returned v ∧ w'.ownsRow w.heap.size 74 2 v L.length (prL L) ∧ Below w.heap.size w w'

set_option maxHeartbeats 4000000 in
theorem pairs_before (x : Value) (H : Nat → Nat → Bool) (l : List Ev) (a : Option Addr) (c : Nat) (w : World) (hl : l.length ≤ 80)
    (HF : ∀ (i j : Nat) (W : World), Below w.heap.size w W → i < j → j < l.length → Calls Try.prog 42 #[.int .i64 i, .int .i64 j, x] W fun r W' => r = .returned (.bool (H i j)) ∧ Below W.heap.size W W') :
    Calls Try.prog 41 #[.slice a l.length c, .func (.func 42) #[] #[x]] w (PrsPost (allP H l.length l.length) w) := by
  obtain ⟨i0, hi, hz0, hz1, hz2⟩ := info_parts infoP
  have HFF := Lib.hid HF
  clear HF
  go_enter Try.func41, Try.ntmps41
  go_wp2
  go_loopw [5, 10] (fun v i wr => ∃ k : Nat, k ≤ l.length ∧ i = .int .i64 k ∧ wr.ownsRow w.heap.size 74 2 v (allP H l.length k).length (prL (allP H l.length k)) ∧ Below w.heap.size w wr) (fun _ i _ => l.length - (intOf i).toNat)
  case atStart => exact ⟨0, Nat.zero_le _, rfl, World.ownsRow_nil _ _ _ _, Below.refl _ _⟩
  case round =>
    obtain ⟨k, hk, rfl, hown, hb⟩ := hrel
    obtain ⟨wo, rfl⟩ : ∃ wo : World, wo = wr := ⟨_, rfl⟩
    by_cases hlt : k < l.length
    · go_wp2
      go_loopw [5, 7] (fun v j wr => ∃ m : Nat, k < m ∧ m ≤ l.length ∧ j = .int .i64 m ∧ wr.ownsRow w.heap.size 74 2 v (allP H l.length k ++ rowP H k m).length (prL (allP H l.length k ++ rowP H k m)) ∧ Below w.heap.size w wr) (fun _ j _ => l.length - (intOf j).toNat)
      case atStart => exact ⟨k + 1, by omega, by omega, by go_num, by rw [rowP_start, List.append_nil]; exact hown, hb⟩
      case round =>
        clear hown hb
        obtain ⟨m, hkm, hm, rfl, hown, hb⟩ := hrel
        by_cases hml : m < l.length
        · have hlen : (allP H l.length k ++ rowP H k m).length ≤ 6480 := by
            rw [List.length_append]
            have h1 := allP_len H l.length k
            have h2 := rowP_len H k m
            have h3 : k * l.length ≤ 80 * 80 := Nat.mul_le_mul (by omega) hl
            omega
          cases hH : H k m
          · have hr := rowP_no H k m hH
            have HR := Lib.hid hr
            clear hr
            go_wp2_with fail
            refine (HFF.out k m _ hb hkm hml).mono ?_
            rintro r w3 ⟨rfl, hq⟩
            rw [hH]
            have ho := own_below hown hq
            have hb3 := hb.trans (hq.mono hb.size)
            clear hown hb hq hH
            go_wp2
            go_roundw
            case rel => exact ⟨m + 1, by omega, by omega, by go_num, by rw [HR.out]; exact ho, hb3⟩
            case measure => (simp [intOf]; try omega)
          · have hr := rowP_yes H k m hkm hH
            have HR := Lib.hid hr
            clear hr
            go_wp2_with fail
            refine (HFF.out k m _ hb hkm hml).mono ?_
            rintro r w3 ⟨rfl, hq⟩
            rw [hH]
            have ho := own_below hown hq
            have hb3 := hb.trans (hq.mono hb.size)
            have hs3 := hb3.size
            clear hown hb hq hH
            have hN := Has.new w3 (prC ((k : Int), (m : Int))) 74
            have hb4 := hb3.alloc hs3 (.cells (prC ((k : Int), (m : Int))) 74)
            go_wp2_with (at_builtin; refine app_list _ rfl (.tmp 25) (.tmp 29) 69 rfl Try.underlying69 hi hz0 hz1 hz2 rfl (by decide) rfl (ho.alloc _) rfl (news := prL [((k : Int), (m : Int))]) ⟨rfl, .inr ⟨_, rfl, fun j u hu => hN.cell_add (by simpa [prL] using hu)⟩⟩ (prL_one _) ?c3 ?c4 ?c5 ?_)
            case c3 => unfold maxLen; omega
            case c4 => omega
            case c5 => simp; omega
            intro v' w4 hA
            have hb5 := hA.below (ho.alloc _) hb4 (by simp; omega)
            have ho5 : w4.ownsRow w.heap.size 74 2 v' (allP H l.length k ++ rowP H k (m + 1)).length (prL (allP H l.length k ++ rowP H k (m + 1))) := by
              have := hA.own
              rw [HR.out, ← List.append_assoc, prL_append _ [((k : Int), (m : Int))], List.length_append, List.length_append]
              exact this
            clear hA ho hN hb4 hb3 hs3
            go_wp2
            go_roundw
            case rel => exact ⟨m + 1, by omega, by omega, by go_num, ho5, hb5⟩
            case measure => (simp [intOf]; try omega)
        · obtain rfl : m = l.length := by omega
          have ha := allP_succ H l.length k
          have HA := Lib.hid ha
          clear ha
          go_wp2
          go_roundw
          case rel => exact ⟨k + 1, by omega, by go_num, by rw [HA.out]; exact hown, hb⟩
          case measure => (simp [intOf]; try omega)
    · obtain rfl : k = l.length := by omega
      go_wp2
      go_ret
      exact ⟨_, rfl, hown, hb⟩
end Go.Proofs.Ytmeidjhojanogaa
