/- Ranging over a set of pairs (a map[api.Pair]bool that the call makes). -/
import Derived.Test.YtlphmkdlacnnoaaLawO
import Derived.Maps.RangeWalk
namespace Go.Proofs.Ytlphmkdlacnnoaa
open Go.RowKit Go.Maps

/-- A loop is under way over the map in block b; r: its iterator's block. -/
def RangeP (w : World) (b r n : Nat) (S : List (Int × Int)) (cnt : Nat) : Prop :=
  ∃ left, w.ranges Try.prog 28 (plainElem Try.prog 4) b r n (prD S) left cnt ∧ ∀ kl, left kl = true → ∃ p ∈ S, kl = prKey p
section
variable {w w' : World} {b r n cnt : Nat} {S : List (Int × Int)}
theorem RangeP.map (h : RangeP w b r n S cnt) : MapP w b n S := h.choose_spec.1.owns
theorem RangeP.left_eq (h : RangeP w b r n S cnt) : w.rangeLeft b r = cnt := h.choose_spec.1.left_eq
theorem RangeP.kept {row : Option Nat} (h : RangeP w b r n S cnt) (hg : w.grownBy w' row) (hb : some b ≠ row) (hr : some r ≠ row) : RangeP w' b r n S cnt := by
  obtain ⟨left, h1, h2⟩ := h
  exact ⟨left, h1.kept hg hb hr, h2⟩
theorem RangeP.below (h : RangeP w b r n S cnt) (k : Below w.heap.size w w') : RangeP w' b r n S cnt :=
  h.kept (row := none) ⟨k.os, k.tape, k.output, k.size, fun i hi _ => k.block i hi⟩ (by simp) (by simp)
theorem RangeP.alloc (h : RangeP w b r n S cnt) (o : Obj) : RangeP (w.alloc o) b r n S cnt := by
  obtain ⟨left, h1, h2⟩ := h
  exact ⟨left, h1.alloc o, h2⟩
theorem RangeP.drewN (h : RangeP w b r n S cnt) (k : Nat) : RangeP (w.drewN k) b r n S cnt := by
  induction k with
  | zero => exact h
  | succ k ih => exact ih
theorem RangeP.lt (h : RangeP w b r n S cnt) : r < w.heap.size := h.choose_spec.1.lt
theorem RangeP.ne (h : RangeP w b r n S cnt) : r ≠ b := h.choose_spec.1.ne
end

section
variable (w : World) {ops : Array Oper} {rest : List Oper} {o : Oper} {a : Act} {Q : Exit → Act → World → Prop}
theorem wpList_range_set (hg : o.guard = none) (m : Operand) (hop : o.op = Op.range 25 m) (b n : Nat) (S : List (Int × Int)) (hm : a.eval m = .map (some b)) (h : MapP w b n S)
    (hK : ∀ w' cnt, RangeP w' b w.heap.size n S cnt → w.grownBy w' none → w'.heap.size = w.heap.size + 1 → wpList Try.prog ops Q rest (a.put o.dst (.pointer (some ⟨w.heap.size, 0, none⟩))) w') :
    wpList Try.prog ops Q (o :: rest) a w := by
  refine wpList_range_own w hg m 25 hop 28 4 pr_keyed Try.underlying25 _ b n (prD S) hm h ?_
  intro w' h1 h2 h3
  refine hK w' _ ⟨_, h1, ?_⟩ h2 h3
  intro kl hkl
  rw [prD, has_setOf _ _ _ (by intro x hx; obtain ⟨p, _, rfl⟩ := List.mem_map.1 hx; exact isKey_pr p)] at hkl
  obtain ⟨x, hx, hs⟩ := List.any_eq_true.1 hkl
  obtain ⟨p, hp, rfl⟩ := List.mem_map.1 hx
  refine ⟨p, hp, ?_⟩
  by_cases e : kl = prKey p
  · exact e
  · rw [sameKey_ne (fun e2 => e e2.symm)] at hs; cases hs
theorem wpList_next_set (hg : o.guard = none) (it : Operand) (hop : o.op = Op.next it false) (b r n : Nat) (S : List (Int × Int)) (cnt : Nat) (hit : a.eval it = .pointer (some ⟨r, 0, none⟩)) (h : RangeP w b r n S cnt) (hS : ∀ q ∈ S, I64P q)
    (hDone : cnt = 0 → wpList Try.prog ops Q rest (a.put o.dst (.tuple #[.bool false])) w)
    (hMore : ∀ (i j : Int) (v : Value) (w' : World) (cnt' : Nat), (i, j) ∈ S → RangeP w' b r n S cnt' → cnt' < cnt → w.grownBy w' (some r) → w'.heap.size = w.heap.size →
      (Instr.entry (.pointer (some ⟨r, 0, none⟩))).run Try.prog w' = .ok (.tuple #[.agg #[.int .i64 i, .int .i64 j], v]) w' → wpList Try.prog ops Q rest (a.put o.dst (.tuple #[.bool true, .agg #[.int .i64 i, .int .i64 j], v])) w') :
    wpList Try.prog ops Q (o :: rest) a w := by
  obtain ⟨left, h1, h2⟩ := h
  refine wpList_plain hg fun K' hK' => ?_
  unfold Oper.wp
  rcases h1.next pr_keyed o.type with ⟨h0, hl, hrun⟩ | ⟨key, v, kl, y, w', cnt', hkey, hlk, hv, hat, hrun, hrg, hlt, hgr, hsz, hen⟩
  · simp [execOp, hop, hit, hrun, Result.andThen]
    exact hK' _ _ (hDone h0)
  · obtain ⟨p, hp, rfl⟩ := h2 kl hlk
    have hi := hS p hp
    obtain rfl := pr_keyed.inj hkey (keyOf_pr p hi.1 hi.2)
    simp [execOp, hop, hit, hrun, Result.andThen]
    refine hK' _ _ (hMore p.1 p.2 v w' cnt' hp ⟨_, hrg, fun kl hkl => ?_⟩ hlt hgr hsz hen)
    simp only [Bool.and_eq_true] at hkl
    exact h2 kl hkl.1
end
end Go.Proofs.Ytlphmkdlacnnoaa
