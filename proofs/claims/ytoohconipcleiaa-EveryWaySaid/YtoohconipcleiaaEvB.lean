/- What a walk keeps: all blocks but some; who visits it. No walk. -/
import Derived.Test.YtoohconipcleiaaEvK
import Derived.Test.YtoohconipcleiaaFad
import Derived.Test.YtoohconipcleiaaRgA
namespace Go.Proofs.Ytoohconipcleiaa
open Go.RowKit

/-- All lies as it lay, but for the blocks of X. -/
structure Kept (X : Nat → Prop) (w w' : World) : Prop where
  os : w'.os = w.os
  tape : w'.tape = w.tape
  output : w'.output = w.output
  size : w.heap.size ≤ w'.heap.size
  block : ∀ k, k < w.heap.size → ¬ X k → w'.heap[k]? = w.heap[k]?
/-- The second set adds new blocks alone. -/
def NewX (w : World) (X X' : Nat → Prop) : Prop := ∀ k, X' k → X k ∨ w.heap.size ≤ k
section
variable {X X' X'' Y : Nat → Prop} {w w' w'' : World}
theorem Kept.of_below (h : Below w.heap.size w w') : Kept X w w' := ⟨h.os, h.tape, h.output, h.size, fun k hk _ => h.block k hk⟩
theorem Kept.refl (X : Nat → Prop) (w : World) : Kept X w w := ⟨rfl, rfl, rfl, Nat.le_refl _, fun _ _ _ => rfl⟩
theorem Kept.trans (h : Kept X w w') (k : Kept X' w' w'') (hx : NewX w X X') : Kept X w w'' :=
  ⟨k.os.trans h.os, k.tape.trans h.tape, k.output.trans h.output, Nat.le_trans h.size k.size, fun j hj hn => (k.block j (Nat.lt_of_lt_of_le hj h.size) fun hj' => by
    rcases hx j hj' with c | c
    · exact hn c
    · omega).trans (h.block j hj hn)⟩
theorem Kept.wide (h : Kept X w w') (hx : ∀ k, X k → Y k) : Kept Y w w' := ⟨h.os, h.tape, h.output, h.size, fun k hk hn => h.block k hk fun c => hn (hx k c)⟩
theorem Kept.below {B : Nat} (h : Kept X w w') (hB : B ≤ w.heap.size) (hx : ∀ k, X k → B ≤ k) : Below B w w' :=
  ⟨h.os, h.tape, h.output, h.size, fun k hk => h.block k (by omega) fun c => by have := hx k c; omega⟩
theorem Kept.heap (h : Kept X w w') {k : Nat} (hk : k < w.heap.size) (hn : ¬ X k) : w'.heap[k]? = w.heap[k]? := h.block k hk hn
theorem Kept.cell (h : Kept X w w') {a : Addr} {v : Value} (hc : w.cell? a = some v) (hn : ¬ X a.block) : w'.cell? a = some v :=
  (World.cell?_of_block (h.block _ (World.block_lt_of_cell? w _ hc) hn)).trans hc
theorem Kept.has (h : Kept X w w') {b : Nat} {cs : Array Value} {T : TypeId} (hb : Has w b cs T) (hn : ¬ X b) : Has w' b cs T := ⟨(h.block b hb.lt hn).trans hb.out⟩
theorem Kept.ints (h : Kept X w w') {a : Option Addr} {l : List Int} (hl : IntS w a l) (hn : ∀ ad : Addr, a = some ad → ¬ X ad.block) : IntS w' a l := by
  refine ⟨hl.big, ?_⟩
  rcases hl.ok with h0 | ⟨b, o, ha, hc⟩
  · exact .inl h0
  · exact .inr ⟨b, o, ha, fun i hi => h.cell (hc i hi) (show ¬ X b from hn ⟨b, o, none⟩ ha)⟩
theorem Kept.of_grown {b : Nat} (h : w.grownBy w' (some b)) (hb : X b) : Kept X w w' := ⟨h.os, h.tape, h.output, h.size, fun k hk hn => h.block k hk fun e => hn (by rw [Option.some.inj e]; exact hb)⟩
theorem NewX.refl (w : World) (X : Nat → Prop) : NewX w X X := fun _ h => .inl h
theorem NewX.trans (h : NewX w X X') (k : NewX w' X' X'') (hs : w.heap.size ≤ w'.heap.size) : NewX w X X'' := fun j hj => by
  rcases k j hj with c | c
  · exact h j c
  · exact .inr (by omega)
theorem NewX.not (h : NewX w X X') {k : Nat} (hk : k < w.heap.size) (hn : ¬ X k) : ¬ X' k := fun c => by
  rcases h k c with c | c
  · exact hn c
  · omega
end
/-- A copy of ints, nil too. -/
theorem cloneI_all (l : List Int) (a : Option Addr) (c : Nat) (w : World) (h : IntS w a l) (hn : l = [] → a = none ∧ c = 0) (h8 : l.length ≤ 1000) :
    Calls Try.prog 63 #[.slice a l.length c] w (CloneI l w) := by
  by_cases hl : l = []
  · obtain ⟨rfl, rfl⟩ := hn hl
    subst hl
    have hnil : (binOp .eql 23 (.slice none 0 0) (.slice none 0 0)).run Try.prog w = .ok (.bool true) w := by kernel_rfl
    go_enter Try.func63, Try.ntmps63
    go_wp2
    go_ret
    exact ⟨_, rfl, ⟨by simp, .inl ⟨rfl, by simp⟩⟩, Below.refl _ _⟩
  · exact cloneInt_any l a c w h hl h8
theorem newI (u : World) (m : Int) : IntS (u.alloc (.cells #[.int .i64 m] 3)) (some ⟨u.heap.size, 0, none⟩) [m] := intS_full (l := [m]) (Has.new u _ _) rfl (by simp)
/-- A row of ints that the call made since it had B blocks. -/
def CloF (B : Nat) (l : List Int) (v : Value) (w : World) : Prop := ∃ base, B ≤ base ∧ base ≤ w.heap.size ∧ w.ownsRow base 3 1 v l.length (ints l)
def RowF (B : Nat) (l : List Int) (v : Value) (w : World) : Prop := ∃ b o c, v = .slice (some ⟨b, o, none⟩) l.length c ∧ B ≤ b ∧ b < w.heap.size ∧ IntS w (some ⟨b, o, none⟩) l
theorem CloF.on {B : Nat} {l : List Int} {v : Value} {w w' : World} (h : CloF B l v w) (k : Below w.heap.size w w') : CloF B l v w' := by
  obtain ⟨b, h1, h2, h3⟩ := h
  exact ⟨b, h1, Nat.le_trans h2 k.size, own_below h3 k⟩
theorem RowF.on {B : Nat} {l : List Int} {v : Value} {w w' : World} (h : RowF B l v w) (k : Below w.heap.size w w') : RowF B l v w' := by
  obtain ⟨b, o, c, h1, h2, h3, h4⟩ := h
  exact ⟨b, o, c, h1, h2, Nat.lt_of_lt_of_le h3 k.size, h4.below k⟩
theorem CloF.app {w0 w w' : World} {base : Nat} {l m : List Int} {v v' : Value} {n : Nat} (hA : Appended w w' base 3 1 v v' n (ints l ++ ints m)) (hn : n = (l ++ m).length) (hne : l ++ m ≠ []) (ho : w.ownsRow base 3 1 v l.length (ints l)) (hB : w0.heap.size ≤ base) (hs : w0.heap.size ≤ w.heap.size) (hl : (l ++ m).length < 4611686018427387904) :
    RowF w0.heap.size (l ++ m) v' w' ∧ Below w0.heap.size w w' := by
  have h1 := hA.own
  rw [hn, ← List.map_append] at h1
  obtain ⟨a, c, rfl, hI, hb⟩ := intS_own h1 hl
  refine ⟨?_, (Below.refl _ _).grown hA.grown hs fun k hk => Nat.le_trans hB (ho.lt k hk).1⟩
  rcases hI.ok with h0 | ⟨b, o, rfl, hc⟩
  · exact absurd h0 hne
  · refine ⟨b, o, c, rfl, Nat.le_trans hB (hb b rfl), ?_, hI⟩
    have h0 : 0 < (l ++ m).length := List.length_pos_iff.2 hne
    exact World.block_lt_of_cell? w' _ (hc 0 h0)
end Go.Proofs.Ytoohconipcleiaa
