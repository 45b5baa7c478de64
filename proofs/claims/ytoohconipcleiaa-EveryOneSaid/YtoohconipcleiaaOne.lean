/- A program of one thread in memory; slices of zeros; Run at these. -/
import Derived.Test.YtoohconipcleiaaMF
namespace Go.Proofs.Ytoohconipcleiaa
open Go.RowKit

/-- n zeros. -/
def zI (n : Nat) : Array Value := ((List.replicate n (Value.int .i64 0))).toArray
set_option maxRecDepth 100000 in
theorem make_zeros (n : Nat) (hn : n ≤ 12) (W : World) : (Instr.makeSlice 23 (.int .i64 (n : Int)) (.int .i64 (n : Int))).run Try.prog W = .ok (.slice (some ⟨W.heap.size, 0, none⟩) n n) (W.alloc (.cells (zI n) 3)) := by
  rcases (by omega : n = 0 ∨ n = 1 ∨ n = 2 ∨ n = 3 ∨ n = 4 ∨ n = 5 ∨ n = 6 ∨ n = 7 ∨ n = 8 ∨ n = 9 ∨ n = 10 ∨ n = 11 ∨ n = 12) with rfl | rfl | rfl | rfl | rfl | rfl | rfl | rfl | rfl | rfl | rfl | rfl | rfl <;> kernel_rfl
theorem zI_ints {w : World} {g n : Nat} (h : Has w g (zI n) 3) (hn : n ≤ 1000) : IntS w (some ⟨g, 0, none⟩) (List.replicate n 0) :=
  ⟨by simp; omega, .inr ⟨g, 0, rfl, fun i hi => by rw [Nat.zero_add]; exact h.cell (by unfold zI; simp at hi; simp [hi])⟩⟩
theorem pgS_one {w : World} {g : Nat} {a : Option Addr} {z : List Ev} {c : Nat} {T : TypeId} (h : Has w g #[.slice a z.length c] T) (hz : EvS w a z) : PgS w (some ⟨g, 0, none⟩) [z] :=
  ⟨by simp, .inr ⟨g, 0, rfl, fun t ht => by
    obtain rfl : t = 0 := by simpa using ht
    exact ⟨a, c, h.cell rfl, hz⟩⟩⟩
theorem run_one (z : List Ev) (n : Nat) (hn : n = z.length) (a ap : Option Addr) (c cp : Nat) (w : World) (h : PgS w a [z]) (hq : IntS w ap (List.replicate n 0)) :
    Calls Try.prog 16 #[.slice a 1 c, .slice ap n cp] w (RunPost [z] (List.replicate z.length 0) w) := by
  subst hn
  have := run_any [z] (List.replicate z.length 0) a ap c cp w h hq
  rw [List.length_replicate] at this
  exact this
theorem IntS.takeN {w : World} {a : Option Addr} {l : List Int} (h : IntS w a l) (n : Nat) : IntS w a (l.take n) := by
  refine ⟨by have := h.big; simp; omega, ?_⟩
  rcases h.ok with h0 | ⟨b, o, ha, hc⟩
  · left; simp [h0]
  · right
    refine ⟨b, o, ha, fun i hi => ?_⟩
    rw [List.getElem_take]
    exact hc i (by simp at hi; omega)
end Go.Proofs.Ytoohconipcleiaa
