/- What the laws on 'order' share. -/
import Derived.Test.YtmeidjhojanogaaOrdG
import Derived.Test.YtmeidjhojanogaaOrdT
namespace Go.Proofs.Ytmeidjhojanogaa
open Go.RowKit Go.Maps

theorem mayB_played {l : List Ev} (h : mayB l = true) : (played l).2.2 = 0 := by
  obtain ⟨h1, h2⟩ := mayB_iff.1 h
  rw [played_small h1]; exact h2
/-- A look-up in the map, in whatever world that the map has drawn into. -/
theorem MapP.looks {w : World} {b n : Nat} {l : List Ev} (h : MapP w b n (befL l)) (hl : l.length ≤ 80) (i j : Nat) (hi : i < l.length) (hj : j < l.length) :
    ∀ k, (Instr.lookup 72 (.map (some b)) (.agg #[.int .i64 (i : Int), .int .i64 (j : Int)]) false).run Try.prog (w.drewN k) = .ok (.bool (R l j i)) (w.drewN k) := by
  intro k
  have e : inB (befL l) ((i : Int), (j : Int)) = R l j i := by
    apply Bool.eq_iff_iff.2
    simp only [inB, decide_eq_true_eq, mem_befL_nat]
    exact ⟨fun h => h.2, fun h => ⟨hj, h⟩⟩
  rw [← e]
  have hk : MapP (w.drewN k) b n (befL l) := by
    induction k with
    | zero => exact h
    | succ k ih => exact ih
  exact hk.look (I64P_bef hl) ((i : Int), (j : Int)) ⟨⟨by simp only; omega, by simp only; omega⟩, ⟨by simp only; omega, by simp only; omega⟩⟩
theorem MapP.look1 {w : World} {b n : Nat} {l : List Ev} (h : MapP w b n (befL l)) (hl : l.length ≤ 80) (i j : Nat) (hi : i < l.length) (hj : j < l.length) :
    (Instr.lookup 72 (.map (some b)) (.agg #[.int .i64 (i : Int), .int .i64 (j : Int)]) false).run Try.prog w = .ok (.bool (R l j i)) w := h.looks hl i j hi hj 0
theorem MapP.below {w w' : World} {b n : Nat} {L : List (Int × Int)} (h : MapP w b n L) (k : Below w.heap.size w w') : MapP w' b n L :=
  h.kept (row := none) ⟨k.os, k.tape, k.output, k.size, fun i hi _ => k.block i hi⟩ (by simp)
theorem MapP.drewN {w : World} {b n : Nat} {L : List (Int × Int)} (h : MapP w b n L) (k : Nat) : MapP (w.drewN k) b n L := by
  induction k with
  | zero => exact h
  | succ k ih => exact ih
end Go.Proofs.Ytmeidjhojanogaa
