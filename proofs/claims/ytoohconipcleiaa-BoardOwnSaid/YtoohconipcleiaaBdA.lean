/- Contracts of board: New, Trace. -/
import Derived.Test.YtoohconipcleiaaLnk
import Derived.Test.YtoohconipcleiaaCln
import Derived.Conc.RwLoneW
import Derived.WalkKit
namespace Go.Proofs.Ytoohconipcleiaa
open Go.RowKit
open Go.RwLone

abbrev bdT : TypeId := 142
/-- A board: its lock's six cells, its events. -/
abbrev bdC (rc : Int) (v : Value) : Array Value := #[.int .i32 0, .int .u32 0, .int .u32 0, .int .u32 0, .int .i32 rc, .int .i32 0, v]
theorem bdNew_any (w : World) : Calls Try.prog 38 #[] w fun r w' => r = .returned (.pointer (some ⟨w.heap.size, 0, none⟩)) ∧ w' = w.alloc (.cells (bdC 0 (.slice none 0 0)) bdT) := by
  go_enter Try.func38, Try.ntmps38
  go_wp2
  go_ret
  exact ⟨rfl, rfl⟩
theorem bd_back {w W1 W2 : World} {b i : Nat} {cs : Array Value} {T : TypeId} {x y : Value} (hB : Has w b cs T) (hB3 : Has (W2.setCell ⟨b, i, none⟩ y) b cs T) (hk : Below W1.heap.size W1 W2) (h1 : W1 = w.setCell ⟨b, i, none⟩ x) : Below w.heap.size w (W2.setCell ⟨b, i, none⟩ y) := by
  subst h1
  refine ⟨hk.os, hk.tape, hk.output, by have := hk.size; simpa using this, fun k hkw => ?_⟩
  by_cases e : k = b
  · subst e; rw [hB3.out, hB.out]
  · rw [Below.heap_setCell _ _ _ _ (by intro h; exact e h), hk.block k (by simpa using hkw), Below.heap_setCell _ _ _ _ (by intro h; exact e h)]
set_option maxRecDepth 100000 in
set_option maxHeartbeats 4000000 in
theorem bdTrace_any (l : List Ev) (a : Option Addr) (c b : Nat) (w : World) (hB : Has w b (bdC 0 (.slice a l.length c)) bdT) (hS : EvS w a l) (hn : ∀ x, a = some x → x.block ≠ b) (h24 : l.length * 24 ≤ 140737488351232) :
    Calls Try.prog 40 #[.pointer (some ⟨b, 0, none⟩)] w fun r w' => ∃ v, r = .returned v ∧ w'.ownsRow w.heap.size 36 3 v l.length (evL l) ∧ Has w' b (bdC 0 (.slice a l.length c)) bdT ∧ Below w.heap.size w w' := by
  have c0 : w.cell? ⟨b, 0, none⟩ = some (.int .i32 0) := hB.cell rfl
  have c3 : w.cell? ⟨b, 0 + 3, none⟩ = some (.int .u32 0) := hB.cell rfl
  have c4 : w.cell? ⟨b, 0 + 4, none⟩ = some (.int .i32 0) := hB.cell rfl
  have z4 : w.frozen? ⟨b, 0 + 4, none⟩ = false := hB.free 4
  have hB1 : Has (w.setCell ⟨b, 0 + 4, none⟩ (.int .i32 1)) b (bdC 1 (.slice a l.length c)) bdT := (hB.setCell 4 (.int .i32 1)).to rfl
  have k6 : (w.setCell ⟨b, 0 + 4, none⟩ (.int .i32 1)).cell? ⟨b, 6, none⟩ = some (.slice a l.length c) := hB1.cell rfl
  go_enter_defers Try.func40, Try.ntmps40
  go_wp2_with fail
  refine (rlock_open rwRLib b 0 0 _ _ _ c0 c3 c4 z4 (by decide +kernel)).mono ?_
  rintro e w' ⟨rfl, rfl⟩
  rw [show wrap32 (0 + 1) = 1 by decide +kernel]
  have hS1 : EvS (w.setCell ⟨b, 0 + 4, none⟩ (.int .i32 1)) a l := by
    refine ⟨hS.big, ?_⟩
    rcases hS.ok with h0 | ⟨g, o, ha, hc⟩
    · exact .inl h0
    · refine .inr ⟨g, o, ha, fun i hi => ?_⟩
      have hg := hn _ ha
      obtain ⟨d0, d1, d2⟩ := hc i hi
      exact ⟨(World.cell?_setCell_other _ _ _ _ (by intro e; exact hg (congrArg Addr.block e).symm)).trans d0, (World.cell?_setCell_other _ _ _ _ (by intro e; exact hg (congrArg Addr.block e).symm)).trans d1, (World.cell?_setCell_other _ _ _ _ (by intro e; exact hg (congrArg Addr.block e).symm)).trans d2⟩
  have hs1 : (w.setCell ⟨b, 0 + 4, none⟩ (.int .i32 1)).heap.size = w.heap.size := by simp
  have hbl := hB.lt
  generalize hW1 : w.setCell ⟨b, 0 + 4, none⟩ (.int .i32 1) = W1 at *
  go_wp2_with fail
  refine (clone_all l a c W1 hS1 h24).mono ?_
  rintro r W2 ⟨v, rfl, hown, hk2⟩
  have hB2 := hB1.below hk2 hB1.lt
  have d0 : W2.cell? ⟨b, 0, none⟩ = some (.int .i32 0) := hB2.cell rfl
  have d2 : W2.cell? ⟨b, 0 + 2, none⟩ = some (.int .u32 0) := hB2.cell rfl
  have d4 : W2.cell? ⟨b, 0 + 4, none⟩ = some (.int .i32 1) := hB2.cell rfl
  have y4 : W2.frozen? ⟨b, 0 + 4, none⟩ = false := hB2.free 4
  have hB3 : Has (W2.setCell ⟨b, 0 + 4, none⟩ (.int .i32 0)) b (bdC 0 (.slice a l.length c)) bdT := (hB2.setCell 4 (.int .i32 0)).to rfl
  have hg3 : W2.grownBy (W2.setCell ⟨b, 0 + 4, none⟩ (.int .i32 0)) (some b) := ⟨rfl, rfl, rfl, by simp, fun j _ hj => Below.heap_setCell _ _ _ _ (by intro e; exact hj (by rw [e]))⟩
  have ho3 := hown.kept hg3 (by
    cases hv : v.ownBlock with
    | none => exact .inl rfl
    | some g =>
      right
      intro e
      injection e with e
      have := (hown.lt g hv).1
      omega)
  have hbk : Below w.heap.size w (W2.setCell ⟨b, 0 + 4, none⟩ (.int .i32 0)) := bd_back hB hB3 hk2 hW1.symm
  rw [hs1] at ho3
  go_wp2
  refine leaves_cons (f := 74) (args := #[.pointer (some ⟨b, 0, none⟩)]) (by simp) (by simp [go_sem]) ?_
  refine (runlock_deferred rwRLib b 0 1 _ _ .returning _ d0 d2 d4 y4 (by decide +kernel)).mono ?_
  rintro e u' w'' ⟨rfl, rfl, rfl⟩
  rw [show wrap32 (1 + -1) = 0 by decide +kernel]
  exact ⟨_, results_tmp rfl _ _ _, v, rfl, ho3, hB3, hbk⟩
end Go.Proofs.Ytoohconipcleiaa
