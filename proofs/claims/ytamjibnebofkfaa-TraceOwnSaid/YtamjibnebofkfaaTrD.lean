/- Contracts: Threads. -/
import Derived.Test.YtamjibnebofkfaaSl
import Derived.Test.YtamjibnebofkfaaRef
namespace Go.Proofs.Ytamjibnebofkfaa
open Go.RowKit

theorem threads_err (l : List Ev) (a : Option Addr) (c : Nat) (w : World) (h : EvS w a l) (he : (played l).2.2 ≠ 0) :
    Calls Try.prog 44 #[.slice a l.length c] w fun r w' => r = .returned (.tuple #[.slice none 0 0, .int .i64 (played l).2.2]) ∧ Below w.heap.size w w' := by
  have hne : ((played l).2.2 != 0) = true := by simpa using he
  go_enter Try.func44, Try.ntmps44
  go_wp2_with fail
  refine (played_any l a c _ h).mono ?_
  rintro r w' ⟨rfl, h1, hb⟩
  go_wp2
  go_ret2
  exact ⟨rfl, hb⟩

/-- A slice of ints that the call made, and OK. -/
def IntsOk (l : List Int) (w : World) (r : Ending) (w' : World) : Prop := ∃ v, r = .returned (.tuple #[v, .int .i64 0]) ∧ w'.ownsRow w.heap.size 3 1 v l.length (ints l) ∧ Below w.heap.size w w'

set_option maxRecDepth 100000 in
set_option maxHeartbeats 1000000 in
theorem threads_ok (l : List Ev) (a : Option Addr) (c : Nat) (w : World) (h : EvS w a l) (he : (played l).2.2 = 0) :
    Calls Try.prog 44 #[.slice a l.length c] w (IntsOk (thrL (played l).1 6) w) := by
  obtain ⟨i0, hi, hz0, hz1, hz2⟩ := info_parts infoI
  have HE := Lib.hid he
  clear he
  go_enter Try.func44, Try.ntmps44
  go_wp2_with fail
  refine (played_any l a c _ h).mono ?_
  rintro r w1 ⟨rfl, h1, hb⟩
  rw [HE.out]
  generalize (played l).1 = s at *
  generalize (played l).2.1 = at1 at *
  have b0 : w1.cell? ⟨w.heap.size, 0, none⟩ = some (.bool (s.begun 0)) := h1.cell rfl
  have b1 : w1.cell? ⟨w.heap.size, 1, none⟩ = some (.bool (s.begun 1)) := h1.cell rfl
  have b2 : w1.cell? ⟨w.heap.size, 2, none⟩ = some (.bool (s.begun 2)) := h1.cell rfl
  have b3 : w1.cell? ⟨w.heap.size, 3, none⟩ = some (.bool (s.begun 3)) := h1.cell rfl
  have b4 : w1.cell? ⟨w.heap.size, 4, none⟩ = some (.bool (s.begun 4)) := h1.cell rfl
  have b5 : w1.cell? ⟨w.heap.size, 5, none⟩ = some (.bool (s.begun 5)) := h1.cell rfl
  go_wp2
  clear b0 b1 b2 b3 b4 b5 h1
  go_loopw [7, 23] (fun v i wr => ∃ k : Nat, k ≤ 6 ∧ i = .int .i64 k ∧ wr.ownsRow w.heap.size 3 1 v (thrL s k).length (ints (thrL s k)) ∧ Below w.heap.size w wr) (fun _ i _ => 6 - (intOf i).toNat)
  case atStart => exact ⟨0, by omega, rfl, by rw [thrL_zero]; exact World.ownsRow_nil _ _ _ _, hb⟩
  case round =>
    clear hb
    obtain ⟨k, hk, rfl, hown, hb⟩ := hrel
    have hlen := thrL_len s k
    by_cases hlt : k < 6
    · have gi : ∀ j : Nat, j < 6 → ∀ w, (Instr.index 83 (.agg #[.bool (s.begun 0), .bool (s.begun 1), .bool (s.begun 2), .bool (s.begun 3), .bool (s.begun 4), .bool (s.begun 5)]) (.int .i64 j)).run Try.prog w = .ok (.bool (s.begun j)) w := by
        intro j hj w; revert j; apply idx6 <;> kernel_rfl
      have g1 := gi k hlt
      clear gi
      by_cases hs : s.begun k = true
      · have hth := thrL_yes s k hs
        rw [hs] at g1
        have HT := Lib.hid hth
        clear hth hs
        go_wp2_with (at_builtin; refine wpList_append_own _ rfl _ _ 57 rfl w.heap.size 3 i0 (.int .i64 0) 1 8 Try.underlying57 hi hz0 hz1 hz2 rfl (by decide) _ _ _ rfl (hown.alloc _) ⟨wr.heap.size, 0, none⟩ 1 1 [.int .i64 k] rfl rfl ?c1 ?c2 ?c3 ?c4 ?c5 ?_)
        case c1 => exact cell_one_new _ _ _
        case c2 => intro u hu; simp at hu; subst hu; rfl
        case c3 => unfold maxLen; omega
        case c4 => omega
        case c5 => simp; have := hb.size; omega
        intro v' w2 hown2 hgrow _
        have hb2 := (hb.alloc hb.size (.cells #[.int .i64 k] 3)).grown hgrow (by simp; have := hb.size; omega) (fun j hj => (hown.lt j hj).1)
        have ho3 : w2.ownsRow w.heap.size 3 1 v' (thrL s (k + 1)).length (ints (thrL s (k + 1))) := by rw [HT.out]; simpa [ints] using hown2
        clear hown2 hgrow hown hb HT
        go_wp2
        go_roundw
        case rel => exact ⟨k + 1, by omega, by go_num, ho3, hb2⟩
        case measure => simp [intOf]; omega
      · have hs' : s.begun k = false := by simpa using hs
        have hth := thrL_no s k hs'
        rw [hs'] at g1
        have HT := Lib.hid hth
        clear hth hs hs'
        go_wp2
        go_roundw
        case rel => exact ⟨k + 1, by omega, by go_num, by rw [HT.out]; exact hown, hb⟩
        case measure => simp [intOf]; omega
    · obtain rfl : k = 6 := by omega
      go_wp2
      go_ret2
      exact ⟨_, rfl, hown, hb⟩

end Go.Proofs.Ytamjibnebofkfaa
