/- Joined texts. -/
import Derived.WalkKit
import Derived.WalkLawsBesides
import Derived.RegionTactic
import Derived.ChangeAlike
import Derived.Deep.QuietTactic
import Derived.BigQuiet
import Derived.Outline
import Derived.Below
import Derived.Lib.Hide
import Derived.Test.YtfjbnhacfficnaaGreatDoorChecked
import Derived.IntWalk

/- Small laws on worlds: a block that is known whole, carried over new blocks, draws and stores. No condition. -/
namespace Go.Proofs.YtfjbnhacfficnaaGreatDoor
open Go.RowKit

theorem ret_int {k : IntKind} {a b : Int} (h : a = b) : Ending.returned (.int k a) = .returned (.int k b) := by rw [h]
theorem ret_bool {a b : Bool} (h : a = b) : Ending.returned (.bool a) = .returned (.bool b) := by rw [h]

/-- Block b is a row of cells, not frozen. -/
structure Has (w : World) (b : Nat) (cs : Array Value) (t : TypeId) : Prop where
  out : w.heap[b]? = some (.cells cs t (0, 0))
section
variable {w w' : World} {b : Nat} {cs : Array Value} {t : TypeId}
theorem Has.lt (h : Has w b cs t) : b < w.heap.size := (Array.getElem?_eq_some_iff.1 h.out).1
theorem Has.cell (h : Has w b cs t) {i : Nat} {v : Value} (hi : cs[i]? = some v) : w.cell? ⟨b, i, none⟩ = some v := by simp [World.cell?, h.out, hi]
theorem Has.cell_add (h : Has w b cs t) {i : Nat} {v : Value} (hi : cs[i]? = some v) : w.cell? ((⟨b, 0, none⟩ : Addr).add i) = some v := by
  have hadd : (⟨b, 0, none⟩ : Addr).add i = ⟨b, 0 + i, none⟩ := by unfold Addr.add; split <;> simp_all
  rw [hadd, Nat.zero_add]; exact h.cell hi
theorem Has.free (h : Has w b cs t) (i : Nat) : w.frozen? ⟨b, i, none⟩ = false := by simp [World.frozen?, h.out]
theorem Has.alloc (h : Has w b cs t) (o : Obj) : Has (w.alloc o) b cs t := ⟨by rw [Below.heap_alloc _ _ _ h.lt]; exact h.out⟩
theorem Has.drewN (h : Has w b cs t) (n : Nat) : Has (w.drewN n) b cs t := ⟨h.out⟩
theorem Has.drew (h : Has w b cs t) : Has w.drew b cs t := ⟨h.out⟩
theorem Has.new (w : World) (cs : Array Value) (t : TypeId) : Has (w.alloc (.cells cs t)) w.heap.size cs t := ⟨by show (w.heap.push _)[w.heap.size]? = _; simp⟩
theorem Has.below {B : Nat} (h : Has w b cs t) (hb : Below B w w') (hB : b < B) : Has w' b cs t := ⟨by rw [hb.block b hB]; exact h.out⟩
theorem Has.setCell (h : Has w b cs t) (i : Nat) (v : Value) : Has (w.setCell ⟨b, i, none⟩ v) b (cs.setIfInBounds i v) t :=
  ⟨by simp only [World.setCell, Array.getElem?_modify, if_pos, h.out, Option.map_some]; rfl⟩
theorem Has.setCell_ne (h : Has w b cs t) {a : Addr} (ha : b ≠ a.block) (v : Value) : Has (w.setCell a v) b cs t := ⟨by rw [Below.heap_setCell _ _ _ _ ha]; exact h.out⟩
theorem Has.at (h : Has w b cs t) {c : Nat} (e : b = c) : Has w c cs t := e ▸ h
theorem Has.grown {row : Option Nat} (h : Has w b cs t) (g : w.grownBy w' row) (hb : some b ≠ row) : Has w' b cs t := ⟨by rw [g.block b h.lt hb]; exact h.out⟩
theorem Has.ne_ty {b' : Nat} {cs' : Array Value} {t' : TypeId} (h : Has w b cs t) (h' : Has w b' cs' t') (ht : t ≠ t') : b ≠ b' := by
  rintro rfl
  have := h.out.symm.trans h'.out
  injection this with this
  injection this with _ e
  exact ht e
theorem Has.to (h : Has w b cs t) {ds : Array Value} (e : cs = ds) : Has w b ds t := e ▸ h
theorem below_drewN {B : Nat} {a w : World} (h : Below B a w) (n : Nat) : Below B a (w.drewN n) := ⟨h.os, h.tape, h.output, h.size, h.block⟩
theorem size_drewN (w : World) (n : Nat) : (w.drewN n).heap.size = w.heap.size := rfl
end
/-- What is below reads as before: the two rules that the walk uses. -/
theorem bcell {W w1 : World} (hb : Below W.heap.size W w1) : (∀ b o, b < W.heap.size → w1.cell? ⟨b, o, none⟩ = W.cell? ⟨b, o, none⟩) ∧ (∀ b o, b < W.heap.size → w1.frozen? ⟨b, o, none⟩ = W.frozen? ⟨b, o, none⟩) :=
  ⟨fun b o h => hb.cell (p := ⟨b, o, none⟩) h, fun b o h => hb.frozen (p := ⟨b, o, none⟩) h⟩
/-- Nothing has turned but the count of draws. -/
def Quiet (w w' : World) : Prop := ∃ n, w.drewN n = w'
section
variable {w w' w'' : World} {b : Nat} {cs : Array Value} {t : TypeId}
theorem Quiet.refl (w : World) : Quiet w w := ⟨0, rfl⟩
theorem Quiet.trans (h : Quiet w w') (k : Quiet w' w'') : Quiet w w'' := by
  obtain ⟨n, rfl⟩ := h; obtain ⟨m, rfl⟩ := k; exact ⟨n + m, by simp⟩
theorem Quiet.heap (h : Quiet w w') : w'.heap = w.heap := by obtain ⟨n, rfl⟩ := h; rfl
theorem Quiet.size (h : Quiet w w') : w'.heap.size = w.heap.size := by rw [h.heap]
theorem Quiet.below (h : Quiet w w') (B : Nat) : Below B w w' := by obtain ⟨n, rfl⟩ := h; exact below_drewN (Below.refl _ _) n
theorem Has.quiet (h : Has w b cs t) (q : Quiet w w') : Has w' b cs t := by obtain ⟨n, rfl⟩ := q; exact h.drewN n
end
theorem idx6 {P : Nat → Prop} (h0 : P 0) (h1 : P 1) (h2 : P 2) (h3 : P 3) (h4 : P 4) (h5 : P 5) : ∀ j, j < 6 → P j := by
  intro j hj; rcases (by omega : j = 0 ∨ j = 1 ∨ j = 2 ∨ j = 3 ∨ j = 4 ∨ j = 5) with rfl | rfl | rfl | rfl | rfl | rfl <;> assumption

/-- A clock's cells. -/
abbrev clkC (f : Nat → Int) : Array Value := #[.int .i64 (f 0), .int .i64 (f 1), .int .i64 (f 2), .int .i64 (f 3), .int .i64 (f 4), .int .i64 (f 5)]
/-- A clock's value. -/
abbrev clkV (f : Nat → Int) : Value := .agg (clkC f)
theorem clkC_get (f : Nat → Int) (k : Nat) (hk : k < 6) : (clkC f)[k]? = some (.int .i64 (f k)) := by
  revert k; apply idx6 <;> rfl
theorem clkC_congr {f g : Nat → Int} (h : ∀ i, i < 6 → f i = g i) : clkC f = clkC g := by
  simp only [clkC, h 0 (by omega), h 1 (by omega), h 2 (by omega), h 3 (by omega), h 4 (by omega), h 5 (by omega)]
theorem clkV_congr {f g : Nat → Int} (h : ∀ i, i < 6 → f i = g i) : clkV f = clkV g := congrArg Value.agg (clkC_congr h)
theorem clkC_set (f : Nat → Int) (k : Nat) (hk : k < 6) (x : Int) : (clkC f).setIfInBounds k (.int .i64 x) = clkC fun i => if i = k then x else f i := by
  revert k; apply idx6 <;> simp [clkC]
theorem all6 {P : Nat → Prop} : (∀ i, i < 6 → P i) ↔ P 0 ∧ P 1 ∧ P 2 ∧ P 3 ∧ P 4 ∧ P 5 :=
  ⟨fun h => ⟨h 0 (by omega), h 1 (by omega), h 2 (by omega), h 3 (by omega), h 4 (by omega), h 5 (by omega)⟩, fun ⟨h0, h1, h2, h3, h4, h5⟩ => idx6 h0 h1 h2 h3 h4 h5⟩
/-- The greater numbers, the lesser ones, 'within', 'equal'. -/
def cmax (f g : Nat → Int) : Nat → Int := fun i => max (f i) (g i)
def cmin (f g : Nat → Int) : Nat → Int := fun i => min (f i) (g i)
def cle (f g : Nat → Int) : Bool := decide (f 0 ≤ g 0 ∧ f 1 ≤ g 1 ∧ f 2 ≤ g 2 ∧ f 3 ≤ g 3 ∧ f 4 ≤ g 4 ∧ f 5 ≤ g 5)
def ceq (f g : Nat → Int) : Bool := decide (f 0 = g 0 ∧ f 1 = g 1 ∧ f 2 = g 2 ∧ f 3 = g 3 ∧ f 4 = g 4 ∧ f 5 = g 5)
theorem cle_iff {f g : Nat → Int} : cle f g = true ↔ ∀ i, i < 6 → f i ≤ g i := by rw [all6]; simp [cle]
theorem ceq_iff {f g : Nat → Int} : ceq f g = true ↔ ∀ i, i < 6 → f i = g i := by rw [all6]; simp [ceq]
theorem Has.clk {w : World} {b : Nat} {f : Nat → Int} {t : TypeId} (h : Has w b (clkC f) t) :
    w.cell? ⟨b, 0, none⟩ = some (.int .i64 (f 0)) ∧ w.cell? ⟨b, 1, none⟩ = some (.int .i64 (f 1)) ∧ w.cell? ⟨b, 2, none⟩ = some (.int .i64 (f 2)) ∧
    w.cell? ⟨b, 3, none⟩ = some (.int .i64 (f 3)) ∧ w.cell? ⟨b, 4, none⟩ = some (.int .i64 (f 4)) ∧ w.cell? ⟨b, 5, none⟩ = some (.int .i64 (f 5)) :=
  ⟨h.cell rfl, h.cell rfl, h.cell rfl, h.cell rfl, h.cell rfl, h.cell rfl⟩
theorem Has.clkFree {w : World} {b : Nat} {f : Nat → Int} {t : TypeId} (h : Has w b (clkC f) t) :
    w.frozen? ⟨b, 0, none⟩ = false ∧ w.frozen? ⟨b, 1, none⟩ = false ∧ w.frozen? ⟨b, 2, none⟩ = false ∧
    w.frozen? ⟨b, 3, none⟩ = false ∧ w.frozen? ⟨b, 4, none⟩ = false ∧ w.frozen? ⟨b, 5, none⟩ = false :=
  ⟨h.free _, h.free _, h.free _, h.free _, h.free _, h.free _⟩
/-- The world at a function's end under one name, with what is known of the result's block. -/
theorem end_has {P : Program} {fn : Func} {R : Ending → World → Prop} {e : Exit} {a : Act} {W : World} {B b : Nat} {w : World} {cs : Array Value} {t : TypeId}
    (hf : Has W b cs t) (hb : Below B w W) (h : ∀ W, Has W b cs t → Below B w W → bodyPost P fn R e a W) : bodyPost P fn R e a W := h W hf hb
end Go.Proofs.YtfjbnhacfficnaaGreatDoor

/- Traces as plain lists: events, the world behind a trace, what is wrong with an event. No program. -/
namespace Go.Proofs.YtfjbnhacfficnaaGreatDoor

/-- An event. -/
structure Ev where
  k : Int
  t : Int
  o : Int
deriving DecidableEq

/-- How many there are of what a kind is of. -/
def manyOf (k : Int) : Int := if k = 1 ∨ k = 2 then 8 else if k = 3 ∨ k = 4 then 5 else if k = 5 ∨ k = 6 then 6 else if k = 7 ∨ k = 8 then 4 else 0
def isEv (e : Ev) : Bool := decide (0 ≤ e.t ∧ e.t < 6 ∧ 0 ≤ e.o ∧ e.o < manyOf e.k)

/-- Who has begun, who is over, who has which lock (a thread and one; 0: nobody). -/
structure St where
  begun : Nat → Bool
  over : Nat → Bool
  owner : Nat → Int
def St.first : St := ⟨fun i => i == 0, fun _ => false, fun _ => 0⟩
def updB (f : Nat → Bool) (k : Nat) : Nat → Bool := fun i => if i = k then true else f i
def updI (f : Nat → Int) (k : Nat) (x : Int) : Nat → Int := fun i => if i = k then x else f i

/-- What is wrong with an event (0: nothing). -/
def err (s : St) (e : Ev) : Int :=
  if isEv e = false then 1
  else if s.begun e.t.toNat = false ∨ s.over e.t.toNat = true then 11
  else if e.k = 3 then (if s.owner e.o.toNat = 0 then 0 else 9)
  else if e.k = 4 then (if s.owner e.o.toNat = e.t + 1 then 0 else 10)
  else if e.k = 5 then (if s.begun e.o.toNat = true then 8 else 0)
  else if e.k = 6 then (if s.begun e.o.toNat = false ∨ e.o = e.t then 7 else 0)
  else 0
/-- The world behind an event that is not wrong. -/
def nxt (s : St) (e : Ev) : St :=
  if e.k = 3 then { s with owner := updI s.owner e.o.toNat (e.t + 1) }
  else if e.k = 4 then { s with owner := updI s.owner e.o.toNat 0 }
  else if e.k = 5 then { s with begun := updB s.begun e.o.toNat }
  else if e.k = 6 then { s with over := updB s.over e.o.toNat }
  else s

/-- A list of events, from a world on: the world behind it, or behind what was right; where it was wrong; how. -/
def playL : St → Nat → List Ev → St × Nat × Int
  | s, _, [] => (s, 0, 0)
  | s, i, e :: l => if err s e = 0 then playL (nxt s e) (i + 1) l else (s, i, err s e)
def played (l : List Ev) : St × Nat × Int := if 80 < l.length then (St.first, 0, 2) else playL St.first 0 l

/-- An event's value; its cells. -/
abbrev evC (e : Ev) : Array Value := #[.int .i64 e.k, .int .i64 e.t, .int .i64 e.o]
abbrev evV (e : Ev) : Value := .agg (evC e)
/-- The cells of a world. -/
abbrev stC (s : St) : Array Value :=
  #[.bool (s.begun 0), .bool (s.begun 1), .bool (s.begun 2), .bool (s.begun 3), .bool (s.begun 4), .bool (s.begun 5),
    .bool (s.over 0), .bool (s.over 1), .bool (s.over 2), .bool (s.over 3), .bool (s.over 4), .bool (s.over 5),
    .int .i64 (s.owner 0), .int .i64 (s.owner 1), .int .i64 (s.owner 2), .int .i64 (s.owner 3), .int .i64 (s.owner 4)]
theorem idx5 {P : Nat → Prop} (h0 : P 0) (h1 : P 1) (h2 : P 2) (h3 : P 3) (h4 : P 4) : ∀ j, j < 5 → P j := by
  intro j hj; rcases (by omega : j = 0 ∨ j = 1 ∨ j = 2 ∨ j = 3 ∨ j = 4) with rfl | rfl | rfl | rfl | rfl <;> assumption
theorem stC_begun (s : St) (k : Nat) (hk : k < 6) : (stC s)[k]? = some (.bool (s.begun k)) := by revert k; apply idx6 <;> rfl
theorem stC_over (s : St) (k : Nat) (hk : k < 6) : (stC s)[6 + k]? = some (.bool (s.over k)) := by revert k; apply idx6 <;> rfl
theorem stC_owner (s : St) (k : Nat) (hk : k < 5) : (stC s)[12 + k]? = some (.int .i64 (s.owner k)) := by revert k; apply idx5 <;> rfl
theorem stC_setBegun (s : St) (k : Nat) (hk : k < 6) : (stC s).setIfInBounds k (.bool true) = stC { s with begun := updB s.begun k } := by
  revert k; apply idx6 <;> simp [stC, updB]
theorem stC_setOver (s : St) (k : Nat) (hk : k < 6) : (stC s).setIfInBounds (6 + k) (.bool true) = stC { s with over := updB s.over k } := by
  revert k; apply idx6 <;> simp [stC, updB]
theorem stC_setOwner (s : St) (k : Nat) (hk : k < 5) (x : Int) : (stC s).setIfInBounds (12 + k) (.int .i64 x) = stC { s with owner := updI s.owner k x } := by
  revert k; apply idx5 <;> simp [stC, updI]
theorem manyOf_le (k : Int) : manyOf k ≤ 8 := by unfold manyOf; (repeat split) <;> omega
theorem isEv_iff {e : Ev} : isEv e = true ↔ 0 ≤ e.t ∧ e.t < 6 ∧ 0 ≤ e.o ∧ e.o < manyOf e.k := by simp [isEv]
theorem manyOf_pos {k : Int} (h : 0 < manyOf k) : k = 1 ∨ k = 2 ∨ k = 3 ∨ k = 4 ∨ k = 5 ∨ k = 6 ∨ k = 7 ∨ k = 8 := by
  unfold manyOf at h; (repeat split at h) <;> omega

end Go.Proofs.YtfjbnhacfficnaaGreatDoor

/- Contracts of package trace: many, IsEvent. -/
namespace Go.Proofs.YtfjbnhacfficnaaGreatDoor
open Go.RowKit

set_option maxHeartbeats 400000 in
theorem many_any (k : Int) (w : World) : Calls Tryz.prog 113 #[.int .i64 k] w fun e w' => e = .returned (.int .i64 (manyOf k)) ∧ w' = w := by
  rcases (by omega : k = 1 ∨ k = 2 ∨ k = 3 ∨ k = 4 ∨ k = 5 ∨ k = 6 ∨ k = 7 ∨ k = 8 ∨ (k ≠ 1 ∧ k ≠ 2 ∧ k ≠ 3 ∧ k ≠ 4 ∧ k ≠ 5 ∧ k ≠ 6 ∧ k ≠ 7 ∧ k ≠ 8)) with rfl | rfl | rfl | rfl | rfl | rfl | rfl | rfl | ⟨h1, h2, h3, h4, h5, h6, h7, h8⟩
  case inr.inr.inr.inr.inr.inr.inr.inr =>
    have e1 : (k == 1) = false := by simpa using h1
    have e2 : (k == 2) = false := by simpa using h2
    have e3 : (k == 3) = false := by simpa using h3
    have e4 : (k == 4) = false := by simpa using h4
    have e5 : (k == 5) = false := by simpa using h5
    have e6 : (k == 6) = false := by simpa using h6
    have e7 : (k == 7) = false := by simpa using h7
    have e8 : (k == 8) = false := by simpa using h8
    have hm : manyOf k = 0 := by simp [manyOf, h1, h2, h3, h4, h5, h6, h7, h8]
    rw [hm]
    clear h1 h2 h3 h4 h5 h6 h7 h8 hm
    go_enter Tryz.func113, Tryz.ntmps113
    go_wp2
    go_ret
    exact ⟨rfl, rfl⟩
  all_goals
    go_enter Tryz.func113, Tryz.ntmps113
    go_wp2
    go_ret
    exact ⟨rfl, rfl⟩

set_option maxHeartbeats 1000000 in
theorem isEvent_any (e : Ev) (w : World) : Calls Tryz.prog 83 #[evV e] w fun r w' => r = .returned (.bool (isEv e)) ∧ Below w.heap.size w w' := by
  have h0 := Has.new w (evC e) 55
  have hb : Below w.heap.size w (w.alloc (.cells (evC e) 55)) := (Below.refl _ _).alloc (by simp) _
  have c0 : (w.alloc (.cells (evC e) 55)).cell? ⟨w.heap.size, 0, none⟩ = some (.int .i64 e.k) := h0.cell rfl
  have c1 : (w.alloc (.cells (evC e) 55)).cell? ⟨w.heap.size, 1, none⟩ = some (.int .i64 e.t) := h0.cell rfl
  have c2 : (w.alloc (.cells (evC e) 55)).cell? ⟨w.heap.size, 2, none⟩ = some (.int .i64 e.o) := h0.cell rfl
  rcases (by omega : e.t < 0 ∨ (0 ≤ e.t ∧ 6 ≤ e.t) ∨ (0 ≤ e.t ∧ e.t < 6 ∧ e.o < 0) ∨ (0 ≤ e.t ∧ e.t < 6 ∧ 0 ≤ e.o)) with h | ⟨h, h1⟩ | ⟨h, h1, h2⟩ | ⟨h, h1, h2⟩
  · have hr : isEv e = false := by simp [isEv]; omega
    have d : decide (0 ≤ e.t) = false := by simp; omega
    rw [hr]
    go_enter Tryz.func83, Tryz.ntmps83
    go_wp2
    go_quiet (fail)
    go_wp2
    go_ret
    exact ⟨rfl, below_drewN hb _⟩
  · have hr : isEv e = false := by simp [isEv]; omega
    have d : decide (e.t < 6) = false := by simp; omega
    rw [hr]
    go_enter Tryz.func83, Tryz.ntmps83
    go_wp2
    go_quiet (fail)
    go_wp2
    go_ret
    exact ⟨rfl, below_drewN hb _⟩
  · have hr : isEv e = false := by simp [isEv]; omega
    have d : decide (0 ≤ e.o) = false := by simp; omega
    rw [hr]
    go_enter Tryz.func83, Tryz.ntmps83
    go_wp2
    go_quiet (fail)
    go_wp2
    go_ret
    exact ⟨rfl, below_drewN hb _⟩
  · have hr : isEv e = decide (e.o < manyOf e.k) := by simp [isEv, h, h1, h2]
    rw [hr]
    clear hr
    go_enter Tryz.func83, Tryz.ntmps83
    go_wp2
    go_quiet ((go_at_call 113; exact Calls.quiet_of_same (many_any _ _)))
    go_wp2
    go_ret
    exact ⟨rfl, below_drewN hb _⟩
end Go.Proofs.YtfjbnhacfficnaaGreatDoor

/- Contracts of package trace: takes, case by case. -/
namespace Go.Proofs.YtfjbnhacfficnaaGreatDoor
open Go.RowKit

/-- What a call of takes leaves: the block b holds the world, all else that was there is as it was. -/
structure Took (w w' : World) (b : Nat) (s : St) : Prop where
  has : Has w' b (stC s) 211
  grown : w.grownBy w' (some b)
theorem grown_of {w w' : World} {b : Nat} (h : Below w.heap.size w w') : w.grownBy w' (some b) := ⟨h.os, h.tape, h.output, h.size, fun k hk _ => h.block k hk⟩
theorem grown_set {w w' : World} {b : Nat} {a : Addr} (h : w.grownBy w' (some b)) (ha : a.block = b) (v : Value) : w.grownBy (w'.setCell a v) (some b) :=
  ⟨h.os, h.tape, h.output, by simpa [World.setCell] using h.size, fun k hk hne => (Below.heap_setCell _ _ _ _ (by rintro rfl; exact hne (by rw [ha]))).trans (h.block k hk hne)⟩
theorem _root_.Go.World.grownBy.drewG {w w' : World} {row : Option Nat} (h : w.grownBy w' row) : w.grownBy w'.drew row := ⟨h.os, h.tape, h.output, h.size, h.block⟩
theorem ev_eta {e : Ev} {k t o : Int} (h1 : e.k = k) (h2 : e.t = t) (h3 : e.o = o) : e = ⟨k, t, o⟩ := by cases e; simp_all

set_option maxHeartbeats 400000 in
theorem takes_bad (s : St) (e : Ev) (b : Nat) (w : World) (h : Has w b (stC s) 211) (hE : isEv e = false) :
    Calls Tryz.prog 85 #[.pointer (some ⟨b, 0, none⟩), evV e] w fun r w' => r = .returned (.int .i64 1) ∧ Took w w' b s := by
  have h1 := h.alloc (.cells (evC e) 55)
  have h0 := Has.new w (evC e) 55
  have hb : Below w.heap.size w (w.alloc (.cells (evC e) 55)) := (Below.refl _ _).alloc (by simp) _
  have hlt := h.lt
  go_enter Tryz.func85, Tryz.ntmps85
  go_wp2_with fail
  generalize w.alloc (.cells (evC e) 55) = w1 at *
  refine (isEvent_any e _).mono ?_
  rintro r w2 ⟨rfl, hk⟩
  rw [hE]
  replace h1 := h1.below hk h1.lt
  replace h0 := h0.below hk h0.lt
  replace hb := hb.trans (hk.mono hb.size)
  have hne : b ≠ w.heap.size := by omega
  clear hk hE
  go_wp2
  go_ret
  exact ⟨rfl, h1, grown_of hb⟩

set_option maxHeartbeats 1000000 in
theorem takes_unbegun (s : St) (K : Int) (t o : Nat) (b : Nat) (w : World) (h : Has w b (stC s) 211) (hE : isEv ⟨K, t, o⟩ = true) (ht : t < 6) (x1 : s.begun t = false) :
    Calls Tryz.prog 85 #[.pointer (some ⟨b, 0, none⟩), evV ⟨K, t, o⟩] w fun r w' => r = .returned (.int .i64 11) ∧ Took w w' b s := by
  have h1 := h.alloc (.cells (evC ⟨K, t, o⟩) 55)
  have h0 := Has.new w (evC ⟨K, t, o⟩) 55
  have hb : Below w.heap.size w (w.alloc (.cells (evC ⟨K, t, o⟩) 55)) := (Below.refl _ _).alloc (by simp) _
  have hlt := h.lt
  go_enter Tryz.func85, Tryz.ntmps85
  go_wp2_with fail
  generalize w.alloc (.cells (evC ⟨K, t, o⟩) 55) = w1 at *
  refine (isEvent_any ⟨K, t, o⟩ _).mono ?_
  rintro r w2 ⟨rfl, hk⟩
  rw [hE]
  replace h1 := h1.below hk h1.lt
  replace h0 := h0.below hk h0.lt
  replace hb := hb.trans (hk.mono hb.size)
  have hne : b ≠ w.heap.size := by omega
  clear hk hE
  have f1 : w2.cell? ⟨w.heap.size, 1, none⟩ = some (.int .i64 (t : Int)) := h0.cell rfl
  have f2 : w2.cell? ⟨w.heap.size, 2, none⟩ = some (.int .i64 (o : Int)) := h0.cell rfl
  have f0 : w2.cell? ⟨w.heap.size, 0, none⟩ = some (.int .i64 K) := h0.cell rfl
  have hb1 : w2.cell? ⟨b, t, none⟩ = some (.bool (s.begun t)) := h1.cell (stC_begun s t ht)
  have i0 : (0 : Int) ≤ t := by omega
  have i6 : (t : Int) < 6 := by omega
  rw [x1] at hb1
  go_wp2
  go_quiet (fail)
  go_wp2
  go_ret
  exact ⟨rfl, by first | exact h1.drewN _ | exact (h1.drewN _).drewN _, by first | exact grown_of (below_drewN hb _) | exact grown_of (below_drewN (below_drewN hb _) _)⟩

set_option maxHeartbeats 1000000 in
theorem takes_over (s : St) (K : Int) (t o : Nat) (b : Nat) (w : World) (h : Has w b (stC s) 211) (hE : isEv ⟨K, t, o⟩ = true) (ht : t < 6) (x1 : s.begun t = true) (x2 : s.over t = true) :
    Calls Tryz.prog 85 #[.pointer (some ⟨b, 0, none⟩), evV ⟨K, t, o⟩] w fun r w' => r = .returned (.int .i64 11) ∧ Took w w' b s := by
  have h1 := h.alloc (.cells (evC ⟨K, t, o⟩) 55)
  have h0 := Has.new w (evC ⟨K, t, o⟩) 55
  have hb : Below w.heap.size w (w.alloc (.cells (evC ⟨K, t, o⟩) 55)) := (Below.refl _ _).alloc (by simp) _
  have hlt := h.lt
  go_enter Tryz.func85, Tryz.ntmps85
  go_wp2_with fail
  generalize w.alloc (.cells (evC ⟨K, t, o⟩) 55) = w1 at *
  refine (isEvent_any ⟨K, t, o⟩ _).mono ?_
  rintro r w2 ⟨rfl, hk⟩
  rw [hE]
  replace h1 := h1.below hk h1.lt
  replace h0 := h0.below hk h0.lt
  replace hb := hb.trans (hk.mono hb.size)
  have hne : b ≠ w.heap.size := by omega
  clear hk hE
  have f1 : w2.cell? ⟨w.heap.size, 1, none⟩ = some (.int .i64 (t : Int)) := h0.cell rfl
  have f2 : w2.cell? ⟨w.heap.size, 2, none⟩ = some (.int .i64 (o : Int)) := h0.cell rfl
  have f0 : w2.cell? ⟨w.heap.size, 0, none⟩ = some (.int .i64 K) := h0.cell rfl
  have hb1 : w2.cell? ⟨b, t, none⟩ = some (.bool (s.begun t)) := h1.cell (stC_begun s t ht)
  have i0 : (0 : Int) ≤ t := by omega
  have i6 : (t : Int) < 6 := by omega
  have hb2 : w2.cell? ⟨b, 6 + t, none⟩ = some (.bool (s.over t)) := h1.cell (stC_over s t ht)
  rw [x1] at hb1
  rw [x2] at hb2
  go_wp2
  go_quiet (fail)
  go_wp2
  go_ret
  exact ⟨rfl, by first | exact h1.drewN _ | exact (h1.drewN _).drewN _, by first | exact grown_of (below_drewN hb _) | exact grown_of (below_drewN (below_drewN hb _) _)⟩

set_option maxHeartbeats 1000000 in
theorem takes_plain1 (s : St) (t o : Nat) (b : Nat) (w : World) (h : Has w b (stC s) 211) (hE : isEv ⟨1, t, o⟩ = true) (ht : t < 6) (x1 : s.begun t = true) (x2 : s.over t = false) :
    Calls Tryz.prog 85 #[.pointer (some ⟨b, 0, none⟩), evV ⟨1, t, o⟩] w fun r w' => r = .returned (.int .i64 0) ∧ Took w w' b s := by
  have h1 := h.alloc (.cells (evC ⟨1, t, o⟩) 55)
  have h0 := Has.new w (evC ⟨1, t, o⟩) 55
  have hb : Below w.heap.size w (w.alloc (.cells (evC ⟨1, t, o⟩) 55)) := (Below.refl _ _).alloc (by simp) _
  have hlt := h.lt
  go_enter Tryz.func85, Tryz.ntmps85
  go_wp2_with fail
  generalize w.alloc (.cells (evC ⟨1, t, o⟩) 55) = w1 at *
  refine (isEvent_any ⟨1, t, o⟩ _).mono ?_
  rintro r w2 ⟨rfl, hk⟩
  rw [hE]
  replace h1 := h1.below hk h1.lt
  replace h0 := h0.below hk h0.lt
  replace hb := hb.trans (hk.mono hb.size)
  have hne : b ≠ w.heap.size := by omega
  clear hk hE
  have f1 : w2.cell? ⟨w.heap.size, 1, none⟩ = some (.int .i64 (t : Int)) := h0.cell rfl
  have f2 : w2.cell? ⟨w.heap.size, 2, none⟩ = some (.int .i64 (o : Int)) := h0.cell rfl
  have f0 : w2.cell? ⟨w.heap.size, 0, none⟩ = some (.int .i64 1) := h0.cell rfl
  have hb1 : w2.cell? ⟨b, t, none⟩ = some (.bool (s.begun t)) := h1.cell (stC_begun s t ht)
  have i0 : (0 : Int) ≤ t := by omega
  have i6 : (t : Int) < 6 := by omega
  have hb2 : w2.cell? ⟨b, 6 + t, none⟩ = some (.bool (s.over t)) := h1.cell (stC_over s t ht)
  rw [x1] at hb1
  rw [x2] at hb2
  go_wp2
  go_quiet (fail)
  go_wp2
  go_ret
  exact ⟨rfl, by first | exact h1.drewN _ | exact (h1.drewN _).drewN _, by first | exact grown_of (below_drewN hb _) | exact grown_of (below_drewN (below_drewN hb _) _)⟩

set_option maxHeartbeats 1000000 in
theorem takes_plain2 (s : St) (t o : Nat) (b : Nat) (w : World) (h : Has w b (stC s) 211) (hE : isEv ⟨2, t, o⟩ = true) (ht : t < 6) (x1 : s.begun t = true) (x2 : s.over t = false) :
    Calls Tryz.prog 85 #[.pointer (some ⟨b, 0, none⟩), evV ⟨2, t, o⟩] w fun r w' => r = .returned (.int .i64 0) ∧ Took w w' b s := by
  have h1 := h.alloc (.cells (evC ⟨2, t, o⟩) 55)
  have h0 := Has.new w (evC ⟨2, t, o⟩) 55
  have hb : Below w.heap.size w (w.alloc (.cells (evC ⟨2, t, o⟩) 55)) := (Below.refl _ _).alloc (by simp) _
  have hlt := h.lt
  go_enter Tryz.func85, Tryz.ntmps85
  go_wp2_with fail
  generalize w.alloc (.cells (evC ⟨2, t, o⟩) 55) = w1 at *
  refine (isEvent_any ⟨2, t, o⟩ _).mono ?_
  rintro r w2 ⟨rfl, hk⟩
  rw [hE]
  replace h1 := h1.below hk h1.lt
  replace h0 := h0.below hk h0.lt
  replace hb := hb.trans (hk.mono hb.size)
  have hne : b ≠ w.heap.size := by omega
  clear hk hE
  have f1 : w2.cell? ⟨w.heap.size, 1, none⟩ = some (.int .i64 (t : Int)) := h0.cell rfl
  have f2 : w2.cell? ⟨w.heap.size, 2, none⟩ = some (.int .i64 (o : Int)) := h0.cell rfl
  have f0 : w2.cell? ⟨w.heap.size, 0, none⟩ = some (.int .i64 2) := h0.cell rfl
  have hb1 : w2.cell? ⟨b, t, none⟩ = some (.bool (s.begun t)) := h1.cell (stC_begun s t ht)
  have i0 : (0 : Int) ≤ t := by omega
  have i6 : (t : Int) < 6 := by omega
  have hb2 : w2.cell? ⟨b, 6 + t, none⟩ = some (.bool (s.over t)) := h1.cell (stC_over s t ht)
  rw [x1] at hb1
  rw [x2] at hb2
  go_wp2
  go_quiet (fail)
  go_wp2
  go_ret
  exact ⟨rfl, by first | exact h1.drewN _ | exact (h1.drewN _).drewN _, by first | exact grown_of (below_drewN hb _) | exact grown_of (below_drewN (below_drewN hb _) _)⟩

set_option maxHeartbeats 1000000 in
theorem takes_plain7 (s : St) (t o : Nat) (b : Nat) (w : World) (h : Has w b (stC s) 211) (hE : isEv ⟨7, t, o⟩ = true) (ht : t < 6) (x1 : s.begun t = true) (x2 : s.over t = false) :
    Calls Tryz.prog 85 #[.pointer (some ⟨b, 0, none⟩), evV ⟨7, t, o⟩] w fun r w' => r = .returned (.int .i64 0) ∧ Took w w' b s := by
  have h1 := h.alloc (.cells (evC ⟨7, t, o⟩) 55)
  have h0 := Has.new w (evC ⟨7, t, o⟩) 55
  have hb : Below w.heap.size w (w.alloc (.cells (evC ⟨7, t, o⟩) 55)) := (Below.refl _ _).alloc (by simp) _
  have hlt := h.lt
  go_enter Tryz.func85, Tryz.ntmps85
  go_wp2_with fail
  generalize w.alloc (.cells (evC ⟨7, t, o⟩) 55) = w1 at *
  refine (isEvent_any ⟨7, t, o⟩ _).mono ?_
  rintro r w2 ⟨rfl, hk⟩
  rw [hE]
  replace h1 := h1.below hk h1.lt
  replace h0 := h0.below hk h0.lt
  replace hb := hb.trans (hk.mono hb.size)
  have hne : b ≠ w.heap.size := by omega
  clear hk hE
  have f1 : w2.cell? ⟨w.heap.size, 1, none⟩ = some (.int .i64 (t : Int)) := h0.cell rfl
  have f2 : w2.cell? ⟨w.heap.size, 2, none⟩ = some (.int .i64 (o : Int)) := h0.cell rfl
  have f0 : w2.cell? ⟨w.heap.size, 0, none⟩ = some (.int .i64 7) := h0.cell rfl
  have hb1 : w2.cell? ⟨b, t, none⟩ = some (.bool (s.begun t)) := h1.cell (stC_begun s t ht)
  have i0 : (0 : Int) ≤ t := by omega
  have i6 : (t : Int) < 6 := by omega
  have hb2 : w2.cell? ⟨b, 6 + t, none⟩ = some (.bool (s.over t)) := h1.cell (stC_over s t ht)
  rw [x1] at hb1
  rw [x2] at hb2
  go_wp2
  go_quiet (fail)
  go_wp2
  go_ret
  exact ⟨rfl, by first | exact h1.drewN _ | exact (h1.drewN _).drewN _, by first | exact grown_of (below_drewN hb _) | exact grown_of (below_drewN (below_drewN hb _) _)⟩

set_option maxHeartbeats 1000000 in
theorem takes_plain8 (s : St) (t o : Nat) (b : Nat) (w : World) (h : Has w b (stC s) 211) (hE : isEv ⟨8, t, o⟩ = true) (ht : t < 6) (x1 : s.begun t = true) (x2 : s.over t = false) :
    Calls Tryz.prog 85 #[.pointer (some ⟨b, 0, none⟩), evV ⟨8, t, o⟩] w fun r w' => r = .returned (.int .i64 0) ∧ Took w w' b s := by
  have h1 := h.alloc (.cells (evC ⟨8, t, o⟩) 55)
  have h0 := Has.new w (evC ⟨8, t, o⟩) 55
  have hb : Below w.heap.size w (w.alloc (.cells (evC ⟨8, t, o⟩) 55)) := (Below.refl _ _).alloc (by simp) _
  have hlt := h.lt
  go_enter Tryz.func85, Tryz.ntmps85
  go_wp2_with fail
  generalize w.alloc (.cells (evC ⟨8, t, o⟩) 55) = w1 at *
  refine (isEvent_any ⟨8, t, o⟩ _).mono ?_
  rintro r w2 ⟨rfl, hk⟩
  rw [hE]
  replace h1 := h1.below hk h1.lt
  replace h0 := h0.below hk h0.lt
  replace hb := hb.trans (hk.mono hb.size)
  have hne : b ≠ w.heap.size := by omega
  clear hk hE
  have f1 : w2.cell? ⟨w.heap.size, 1, none⟩ = some (.int .i64 (t : Int)) := h0.cell rfl
  have f2 : w2.cell? ⟨w.heap.size, 2, none⟩ = some (.int .i64 (o : Int)) := h0.cell rfl
  have f0 : w2.cell? ⟨w.heap.size, 0, none⟩ = some (.int .i64 8) := h0.cell rfl
  have hb1 : w2.cell? ⟨b, t, none⟩ = some (.bool (s.begun t)) := h1.cell (stC_begun s t ht)
  have i0 : (0 : Int) ≤ t := by omega
  have i6 : (t : Int) < 6 := by omega
  have hb2 : w2.cell? ⟨b, 6 + t, none⟩ = some (.bool (s.over t)) := h1.cell (stC_over s t ht)
  rw [x1] at hb1
  rw [x2] at hb2
  go_wp2
  go_quiet (fail)
  go_wp2
  go_ret
  exact ⟨rfl, by first | exact h1.drewN _ | exact (h1.drewN _).drewN _, by first | exact grown_of (below_drewN hb _) | exact grown_of (below_drewN (below_drewN hb _) _)⟩

set_option maxHeartbeats 1000000 in
theorem takes_held (s : St) (t o : Nat) (b : Nat) (w : World) (h : Has w b (stC s) 211) (hE : isEv ⟨3, t, o⟩ = true) (ht : t < 6) (x1 : s.begun t = true) (x2 : s.over t = false) (ho5 : o < 5) (x3 : s.owner o ≠ 0) :
    Calls Tryz.prog 85 #[.pointer (some ⟨b, 0, none⟩), evV ⟨3, t, o⟩] w fun r w' => r = .returned (.int .i64 9) ∧ Took w w' b s := by
  have h1 := h.alloc (.cells (evC ⟨3, t, o⟩) 55)
  have h0 := Has.new w (evC ⟨3, t, o⟩) 55
  have hb : Below w.heap.size w (w.alloc (.cells (evC ⟨3, t, o⟩) 55)) := (Below.refl _ _).alloc (by simp) _
  have hlt := h.lt
  go_enter Tryz.func85, Tryz.ntmps85
  go_wp2_with fail
  generalize w.alloc (.cells (evC ⟨3, t, o⟩) 55) = w1 at *
  refine (isEvent_any ⟨3, t, o⟩ _).mono ?_
  rintro r w2 ⟨rfl, hk⟩
  rw [hE]
  replace h1 := h1.below hk h1.lt
  replace h0 := h0.below hk h0.lt
  replace hb := hb.trans (hk.mono hb.size)
  have hne : b ≠ w.heap.size := by omega
  clear hk hE
  have f1 : w2.cell? ⟨w.heap.size, 1, none⟩ = some (.int .i64 (t : Int)) := h0.cell rfl
  have f2 : w2.cell? ⟨w.heap.size, 2, none⟩ = some (.int .i64 (o : Int)) := h0.cell rfl
  have f0 : w2.cell? ⟨w.heap.size, 0, none⟩ = some (.int .i64 3) := h0.cell rfl
  have hb1 : w2.cell? ⟨b, t, none⟩ = some (.bool (s.begun t)) := h1.cell (stC_begun s t ht)
  have i0 : (0 : Int) ≤ t := by omega
  have i6 : (t : Int) < 6 := by omega
  have j0 : (0 : Int) ≤ o := by omega
  have j5 : (o : Int) < 5 := by omega
  have ho : w2.cell? ⟨b, 12 + o, none⟩ = some (.int .i64 (s.owner o)) := h1.cell (stC_owner s o ho5)
  have fo := h1.free (12 + o)
  have y : (s.owner o != 0) = true := by simpa using x3
  have hb2 : w2.cell? ⟨b, 6 + t, none⟩ = some (.bool (s.over t)) := h1.cell (stC_over s t ht)
  rw [x1] at hb1
  rw [x2] at hb2
  go_wp2
  go_quiet (fail)
  go_wp2
  go_quiet (fail)
  go_wp2
  go_ret
  exact ⟨rfl, by first | exact h1.drewN _ | exact (h1.drewN _).drewN _, by first | exact grown_of (below_drewN hb _) | exact grown_of (below_drewN (below_drewN hb _) _)⟩

set_option maxHeartbeats 1000000 in
theorem takes_acquire (s : St) (t o : Nat) (b : Nat) (w : World) (h : Has w b (stC s) 211) (hE : isEv ⟨3, t, o⟩ = true) (ht : t < 6) (x1 : s.begun t = true) (x2 : s.over t = false) (ho5 : o < 5) (x3 : s.owner o = 0) :
    Calls Tryz.prog 85 #[.pointer (some ⟨b, 0, none⟩), evV ⟨3, t, o⟩] w fun r w' => r = .returned (.int .i64 0) ∧ Took w w' b { s with owner := updI s.owner o (t + 1) } := by
  have h1 := h.alloc (.cells (evC ⟨3, t, o⟩) 55)
  have h0 := Has.new w (evC ⟨3, t, o⟩) 55
  have hb : Below w.heap.size w (w.alloc (.cells (evC ⟨3, t, o⟩) 55)) := (Below.refl _ _).alloc (by simp) _
  have hlt := h.lt
  go_enter Tryz.func85, Tryz.ntmps85
  go_wp2_with fail
  generalize w.alloc (.cells (evC ⟨3, t, o⟩) 55) = w1 at *
  refine (isEvent_any ⟨3, t, o⟩ _).mono ?_
  rintro r w2 ⟨rfl, hk⟩
  rw [hE]
  replace h1 := h1.below hk h1.lt
  replace h0 := h0.below hk h0.lt
  replace hb := hb.trans (hk.mono hb.size)
  have hne : b ≠ w.heap.size := by omega
  clear hk hE
  have f1 : w2.cell? ⟨w.heap.size, 1, none⟩ = some (.int .i64 (t : Int)) := h0.cell rfl
  have f2 : w2.cell? ⟨w.heap.size, 2, none⟩ = some (.int .i64 (o : Int)) := h0.cell rfl
  have f0 : w2.cell? ⟨w.heap.size, 0, none⟩ = some (.int .i64 3) := h0.cell rfl
  have hb1 : w2.cell? ⟨b, t, none⟩ = some (.bool (s.begun t)) := h1.cell (stC_begun s t ht)
  have i0 : (0 : Int) ≤ t := by omega
  have i6 : (t : Int) < 6 := by omega
  have j0 : (0 : Int) ≤ o := by omega
  have j5 : (o : Int) < 5 := by omega
  have ho : w2.cell? ⟨b, 12 + o, none⟩ = some (.int .i64 (s.owner o)) := h1.cell (stC_owner s o ho5)
  have fo := h1.free (12 + o)
  rw [x3] at ho
  have hb2 : w2.cell? ⟨b, 6 + t, none⟩ = some (.bool (s.over t)) := h1.cell (stC_over s t ht)
  rw [x1] at hb1
  rw [x2] at hb2
  go_wp2
  go_quiet (fail)
  go_wp2
  go_quiet (fail)
  go_wp2
  go_region
  all_goals
    go_wp2
    go_ret
    refine ⟨rfl, ?_, ?_⟩
    · first | exact ((((h1.drewN _).drewN _).drew).setCell _ _).to (stC_setOwner s o ho5 _) | exact (((h1.drewN _).drew).setCell _ _).to (stC_setOwner s o ho5 _) | exact ((((h1.drewN _).drewN _).setCell _ _)).drew.to (stC_setOwner s o ho5 _)
    · first | exact grown_set (grown_of ((below_drewN (below_drewN hb _) _).drew)) rfl _ | exact grown_set (grown_of (below_drewN hb _).drew) rfl _ | exact (grown_set (grown_of (below_drewN (below_drewN hb _) _)) rfl _).drewG

set_option maxHeartbeats 1000000 in
theorem takes_notheld (s : St) (t o : Nat) (b : Nat) (w : World) (h : Has w b (stC s) 211) (hE : isEv ⟨4, t, o⟩ = true) (ht : t < 6) (x1 : s.begun t = true) (x2 : s.over t = false) (ho5 : o < 5) (x3 : s.owner o ≠ t + 1) :
    Calls Tryz.prog 85 #[.pointer (some ⟨b, 0, none⟩), evV ⟨4, t, o⟩] w fun r w' => r = .returned (.int .i64 10) ∧ Took w w' b s := by
  have h1 := h.alloc (.cells (evC ⟨4, t, o⟩) 55)
  have h0 := Has.new w (evC ⟨4, t, o⟩) 55
  have hb : Below w.heap.size w (w.alloc (.cells (evC ⟨4, t, o⟩) 55)) := (Below.refl _ _).alloc (by simp) _
  have hlt := h.lt
  go_enter Tryz.func85, Tryz.ntmps85
  go_wp2_with fail
  generalize w.alloc (.cells (evC ⟨4, t, o⟩) 55) = w1 at *
  refine (isEvent_any ⟨4, t, o⟩ _).mono ?_
  rintro r w2 ⟨rfl, hk⟩
  rw [hE]
  replace h1 := h1.below hk h1.lt
  replace h0 := h0.below hk h0.lt
  replace hb := hb.trans (hk.mono hb.size)
  have hne : b ≠ w.heap.size := by omega
  clear hk hE
  have f1 : w2.cell? ⟨w.heap.size, 1, none⟩ = some (.int .i64 (t : Int)) := h0.cell rfl
  have f2 : w2.cell? ⟨w.heap.size, 2, none⟩ = some (.int .i64 (o : Int)) := h0.cell rfl
  have f0 : w2.cell? ⟨w.heap.size, 0, none⟩ = some (.int .i64 4) := h0.cell rfl
  have hb1 : w2.cell? ⟨b, t, none⟩ = some (.bool (s.begun t)) := h1.cell (stC_begun s t ht)
  have i0 : (0 : Int) ≤ t := by omega
  have i6 : (t : Int) < 6 := by omega
  have j0 : (0 : Int) ≤ o := by omega
  have j5 : (o : Int) < 5 := by omega
  have ho : w2.cell? ⟨b, 12 + o, none⟩ = some (.int .i64 (s.owner o)) := h1.cell (stC_owner s o ho5)
  have fo := h1.free (12 + o)
  have y : (s.owner o != (t : Int) + 1) = true := by simpa using x3
  have hwr := IntWalk.i64_in ((t : Int) + 1) (by omega)
  have hb2 : w2.cell? ⟨b, 6 + t, none⟩ = some (.bool (s.over t)) := h1.cell (stC_over s t ht)
  rw [x1] at hb1
  rw [x2] at hb2
  go_wp2
  go_quiet (fail)
  go_wp2
  go_quiet (fail)
  go_wp2
  go_ret
  exact ⟨rfl, by first | exact h1.drewN _ | exact (h1.drewN _).drewN _, by first | exact grown_of (below_drewN hb _) | exact grown_of (below_drewN (below_drewN hb _) _)⟩

set_option maxHeartbeats 1000000 in
theorem takes_release (s : St) (t o : Nat) (b : Nat) (w : World) (h : Has w b (stC s) 211) (hE : isEv ⟨4, t, o⟩ = true) (ht : t < 6) (x1 : s.begun t = true) (x2 : s.over t = false) (ho5 : o < 5) (x3 : s.owner o = t + 1) :
    Calls Tryz.prog 85 #[.pointer (some ⟨b, 0, none⟩), evV ⟨4, t, o⟩] w fun r w' => r = .returned (.int .i64 0) ∧ Took w w' b { s with owner := updI s.owner o 0 } := by
  have h1 := h.alloc (.cells (evC ⟨4, t, o⟩) 55)
  have h0 := Has.new w (evC ⟨4, t, o⟩) 55
  have hb : Below w.heap.size w (w.alloc (.cells (evC ⟨4, t, o⟩) 55)) := (Below.refl _ _).alloc (by simp) _
  have hlt := h.lt
  go_enter Tryz.func85, Tryz.ntmps85
  go_wp2_with fail
  generalize w.alloc (.cells (evC ⟨4, t, o⟩) 55) = w1 at *
  refine (isEvent_any ⟨4, t, o⟩ _).mono ?_
  rintro r w2 ⟨rfl, hk⟩
  rw [hE]
  replace h1 := h1.below hk h1.lt
  replace h0 := h0.below hk h0.lt
  replace hb := hb.trans (hk.mono hb.size)
  have hne : b ≠ w.heap.size := by omega
  clear hk hE
  have f1 : w2.cell? ⟨w.heap.size, 1, none⟩ = some (.int .i64 (t : Int)) := h0.cell rfl
  have f2 : w2.cell? ⟨w.heap.size, 2, none⟩ = some (.int .i64 (o : Int)) := h0.cell rfl
  have f0 : w2.cell? ⟨w.heap.size, 0, none⟩ = some (.int .i64 4) := h0.cell rfl
  have hb1 : w2.cell? ⟨b, t, none⟩ = some (.bool (s.begun t)) := h1.cell (stC_begun s t ht)
  have i0 : (0 : Int) ≤ t := by omega
  have i6 : (t : Int) < 6 := by omega
  have j0 : (0 : Int) ≤ o := by omega
  have j5 : (o : Int) < 5 := by omega
  have ho : w2.cell? ⟨b, 12 + o, none⟩ = some (.int .i64 (s.owner o)) := h1.cell (stC_owner s o ho5)
  have fo := h1.free (12 + o)
  rw [x3] at ho
  have hwr := IntWalk.i64_in ((t : Int) + 1) (by omega)
  have hb2 : w2.cell? ⟨b, 6 + t, none⟩ = some (.bool (s.over t)) := h1.cell (stC_over s t ht)
  rw [x1] at hb1
  rw [x2] at hb2
  go_wp2
  go_quiet (fail)
  go_wp2
  go_quiet (fail)
  go_wp2
  go_region
  all_goals
    go_wp2
    go_ret
    refine ⟨rfl, ?_, ?_⟩
    · first | exact ((((h1.drewN _).drewN _).drew).setCell _ _).to (stC_setOwner s o ho5 _) | exact (((h1.drewN _).drew).setCell _ _).to (stC_setOwner s o ho5 _) | exact ((((h1.drewN _).drewN _).setCell _ _)).drew.to (stC_setOwner s o ho5 _)
    · first | exact grown_set (grown_of ((below_drewN (below_drewN hb _) _).drew)) rfl _ | exact grown_set (grown_of (below_drewN hb _).drew) rfl _ | exact (grown_set (grown_of (below_drewN (below_drewN hb _) _)) rfl _).drewG

set_option maxHeartbeats 1000000 in
theorem takes_twice (s : St) (t o : Nat) (b : Nat) (w : World) (h : Has w b (stC s) 211) (hE : isEv ⟨5, t, o⟩ = true) (ht : t < 6) (x1 : s.begun t = true) (x2 : s.over t = false) (ho6 : o < 6) (x3 : s.begun o = true) :
    Calls Tryz.prog 85 #[.pointer (some ⟨b, 0, none⟩), evV ⟨5, t, o⟩] w fun r w' => r = .returned (.int .i64 8) ∧ Took w w' b s := by
  have h1 := h.alloc (.cells (evC ⟨5, t, o⟩) 55)
  have h0 := Has.new w (evC ⟨5, t, o⟩) 55
  have hb : Below w.heap.size w (w.alloc (.cells (evC ⟨5, t, o⟩) 55)) := (Below.refl _ _).alloc (by simp) _
  have hlt := h.lt
  go_enter Tryz.func85, Tryz.ntmps85
  go_wp2_with fail
  generalize w.alloc (.cells (evC ⟨5, t, o⟩) 55) = w1 at *
  refine (isEvent_any ⟨5, t, o⟩ _).mono ?_
  rintro r w2 ⟨rfl, hk⟩
  rw [hE]
  replace h1 := h1.below hk h1.lt
  replace h0 := h0.below hk h0.lt
  replace hb := hb.trans (hk.mono hb.size)
  have hne : b ≠ w.heap.size := by omega
  clear hk hE
  have f1 : w2.cell? ⟨w.heap.size, 1, none⟩ = some (.int .i64 (t : Int)) := h0.cell rfl
  have f2 : w2.cell? ⟨w.heap.size, 2, none⟩ = some (.int .i64 (o : Int)) := h0.cell rfl
  have f0 : w2.cell? ⟨w.heap.size, 0, none⟩ = some (.int .i64 5) := h0.cell rfl
  have hb1 : w2.cell? ⟨b, t, none⟩ = some (.bool (s.begun t)) := h1.cell (stC_begun s t ht)
  have i0 : (0 : Int) ≤ t := by omega
  have i6 : (t : Int) < 6 := by omega
  have j0 : (0 : Int) ≤ o := by omega
  have j6 : (o : Int) < 6 := by omega
  have ho : w2.cell? ⟨b, o, none⟩ = some (.bool (s.begun o)) := h1.cell (stC_begun s o ho6)
  have fo := h1.free o
  rw [x3] at ho
  have hb2 : w2.cell? ⟨b, 6 + t, none⟩ = some (.bool (s.over t)) := h1.cell (stC_over s t ht)
  rw [x1] at hb1
  rw [x2] at hb2
  go_wp2
  go_quiet (fail)
  go_wp2
  go_quiet (fail)
  go_wp2
  go_ret
  exact ⟨rfl, by first | exact h1.drewN _ | exact (h1.drewN _).drewN _, by first | exact grown_of (below_drewN hb _) | exact grown_of (below_drewN (below_drewN hb _) _)⟩

set_option maxHeartbeats 1000000 in
theorem takes_fork (s : St) (t o : Nat) (b : Nat) (w : World) (h : Has w b (stC s) 211) (hE : isEv ⟨5, t, o⟩ = true) (ht : t < 6) (x1 : s.begun t = true) (x2 : s.over t = false) (ho6 : o < 6) (x3 : s.begun o = false) :
    Calls Tryz.prog 85 #[.pointer (some ⟨b, 0, none⟩), evV ⟨5, t, o⟩] w fun r w' => r = .returned (.int .i64 0) ∧ Took w w' b { s with begun := updB s.begun o } := by
  have h1 := h.alloc (.cells (evC ⟨5, t, o⟩) 55)
  have h0 := Has.new w (evC ⟨5, t, o⟩) 55
  have hb : Below w.heap.size w (w.alloc (.cells (evC ⟨5, t, o⟩) 55)) := (Below.refl _ _).alloc (by simp) _
  have hlt := h.lt
  go_enter Tryz.func85, Tryz.ntmps85
  go_wp2_with fail
  generalize w.alloc (.cells (evC ⟨5, t, o⟩) 55) = w1 at *
  refine (isEvent_any ⟨5, t, o⟩ _).mono ?_
  rintro r w2 ⟨rfl, hk⟩
  rw [hE]
  replace h1 := h1.below hk h1.lt
  replace h0 := h0.below hk h0.lt
  replace hb := hb.trans (hk.mono hb.size)
  have hne : b ≠ w.heap.size := by omega
  clear hk hE
  have f1 : w2.cell? ⟨w.heap.size, 1, none⟩ = some (.int .i64 (t : Int)) := h0.cell rfl
  have f2 : w2.cell? ⟨w.heap.size, 2, none⟩ = some (.int .i64 (o : Int)) := h0.cell rfl
  have f0 : w2.cell? ⟨w.heap.size, 0, none⟩ = some (.int .i64 5) := h0.cell rfl
  have hb1 : w2.cell? ⟨b, t, none⟩ = some (.bool (s.begun t)) := h1.cell (stC_begun s t ht)
  have i0 : (0 : Int) ≤ t := by omega
  have i6 : (t : Int) < 6 := by omega
  have j0 : (0 : Int) ≤ o := by omega
  have j6 : (o : Int) < 6 := by omega
  have ho : w2.cell? ⟨b, o, none⟩ = some (.bool (s.begun o)) := h1.cell (stC_begun s o ho6)
  have fo := h1.free o
  rw [x3] at ho
  have hb2 : w2.cell? ⟨b, 6 + t, none⟩ = some (.bool (s.over t)) := h1.cell (stC_over s t ht)
  rw [x1] at hb1
  rw [x2] at hb2
  go_wp2
  go_quiet (fail)
  go_wp2
  go_quiet (fail)
  go_wp2
  go_region
  all_goals
    go_wp2
    go_ret
    refine ⟨rfl, ?_, ?_⟩
    · first | exact ((((h1.drewN _).drewN _).drew).setCell _ _).to (stC_setBegun s o ho6) | exact (((h1.drewN _).drew).setCell _ _).to (stC_setBegun s o ho6) | exact ((((h1.drewN _).drewN _).setCell _ _)).drew.to (stC_setBegun s o ho6)
    · first | exact grown_set (grown_of ((below_drewN (below_drewN hb _) _).drew)) rfl _ | exact grown_set (grown_of (below_drewN hb _).drew) rfl _ | exact (grown_set (grown_of (below_drewN (below_drewN hb _) _)) rfl _).drewG

set_option maxHeartbeats 1000000 in
theorem takes_none (s : St) (t o : Nat) (b : Nat) (w : World) (h : Has w b (stC s) 211) (hE : isEv ⟨6, t, o⟩ = true) (ht : t < 6) (x1 : s.begun t = true) (x2 : s.over t = false) (ho6 : o < 6) (x3 : s.begun o = false) :
    Calls Tryz.prog 85 #[.pointer (some ⟨b, 0, none⟩), evV ⟨6, t, o⟩] w fun r w' => r = .returned (.int .i64 7) ∧ Took w w' b s := by
  have h1 := h.alloc (.cells (evC ⟨6, t, o⟩) 55)
  have h0 := Has.new w (evC ⟨6, t, o⟩) 55
  have hb : Below w.heap.size w (w.alloc (.cells (evC ⟨6, t, o⟩) 55)) := (Below.refl _ _).alloc (by simp) _
  have hlt := h.lt
  go_enter Tryz.func85, Tryz.ntmps85
  go_wp2_with fail
  generalize w.alloc (.cells (evC ⟨6, t, o⟩) 55) = w1 at *
  refine (isEvent_any ⟨6, t, o⟩ _).mono ?_
  rintro r w2 ⟨rfl, hk⟩
  rw [hE]
  replace h1 := h1.below hk h1.lt
  replace h0 := h0.below hk h0.lt
  replace hb := hb.trans (hk.mono hb.size)
  have hne : b ≠ w.heap.size := by omega
  clear hk hE
  have f1 : w2.cell? ⟨w.heap.size, 1, none⟩ = some (.int .i64 (t : Int)) := h0.cell rfl
  have f2 : w2.cell? ⟨w.heap.size, 2, none⟩ = some (.int .i64 (o : Int)) := h0.cell rfl
  have f0 : w2.cell? ⟨w.heap.size, 0, none⟩ = some (.int .i64 6) := h0.cell rfl
  have hb1 : w2.cell? ⟨b, t, none⟩ = some (.bool (s.begun t)) := h1.cell (stC_begun s t ht)
  have i0 : (0 : Int) ≤ t := by omega
  have i6 : (t : Int) < 6 := by omega
  have j0 : (0 : Int) ≤ o := by omega
  have j6 : (o : Int) < 6 := by omega
  have ho : w2.cell? ⟨b, o, none⟩ = some (.bool (s.begun o)) := h1.cell (stC_begun s o ho6)
  have fo := h1.free o
  rw [x3] at ho
  have hb2 : w2.cell? ⟨b, 6 + t, none⟩ = some (.bool (s.over t)) := h1.cell (stC_over s t ht)
  rw [x1] at hb1
  rw [x2] at hb2
  go_wp2
  go_quiet (fail)
  go_wp2
  go_quiet (fail)
  go_wp2
  go_ret
  exact ⟨rfl, by first | exact h1.drewN _ | exact (h1.drewN _).drewN _, by first | exact grown_of (below_drewN hb _) | exact grown_of (below_drewN (below_drewN hb _) _)⟩

set_option maxHeartbeats 1000000 in
theorem takes_self (s : St) (t : Nat) (b : Nat) (w : World) (h : Has w b (stC s) 211) (hE : isEv ⟨6, t, t⟩ = true) (ht : t < 6) (x1 : s.begun t = true) (x2 : s.over t = false) :
    Calls Tryz.prog 85 #[.pointer (some ⟨b, 0, none⟩), evV ⟨6, t, t⟩] w fun r w' => r = .returned (.int .i64 7) ∧ Took w w' b s := by
  have h1 := h.alloc (.cells (evC ⟨6, t, t⟩) 55)
  have h0 := Has.new w (evC ⟨6, t, t⟩) 55
  have hb : Below w.heap.size w (w.alloc (.cells (evC ⟨6, t, t⟩) 55)) := (Below.refl _ _).alloc (by simp) _
  have hlt := h.lt
  go_enter Tryz.func85, Tryz.ntmps85
  go_wp2_with fail
  generalize w.alloc (.cells (evC ⟨6, t, t⟩) 55) = w1 at *
  refine (isEvent_any ⟨6, t, t⟩ _).mono ?_
  rintro r w2 ⟨rfl, hk⟩
  rw [hE]
  replace h1 := h1.below hk h1.lt
  replace h0 := h0.below hk h0.lt
  replace hb := hb.trans (hk.mono hb.size)
  have hne : b ≠ w.heap.size := by omega
  clear hk hE
  have f1 : w2.cell? ⟨w.heap.size, 1, none⟩ = some (.int .i64 (t : Int)) := h0.cell rfl
  have f2 : w2.cell? ⟨w.heap.size, 2, none⟩ = some (.int .i64 (t : Int)) := h0.cell rfl
  have f0 : w2.cell? ⟨w.heap.size, 0, none⟩ = some (.int .i64 6) := h0.cell rfl
  have hb1 : w2.cell? ⟨b, t, none⟩ = some (.bool (s.begun t)) := h1.cell (stC_begun s t ht)
  have i0 : (0 : Int) ≤ t := by omega
  have i6 : (t : Int) < 6 := by omega
  have y : ((t : Int) == (t : Int)) = true := by simp
  have hb2 : w2.cell? ⟨b, 6 + t, none⟩ = some (.bool (s.over t)) := h1.cell (stC_over s t ht)
  rw [x1] at hb1
  rw [x2] at hb2
  go_wp2
  go_quiet (fail)
  go_wp2
  go_quiet (fail)
  go_wp2
  go_ret
  exact ⟨rfl, by first | exact h1.drewN _ | exact (h1.drewN _).drewN _, by first | exact grown_of (below_drewN hb _) | exact grown_of (below_drewN (below_drewN hb _) _)⟩

set_option maxHeartbeats 1000000 in
theorem takes_join (s : St) (t o : Nat) (b : Nat) (w : World) (h : Has w b (stC s) 211) (hE : isEv ⟨6, t, o⟩ = true) (ht : t < 6) (x1 : s.begun t = true) (x2 : s.over t = false) (ho6 : o < 6) (x3 : s.begun o = true) (x4 : o ≠ t) :
    Calls Tryz.prog 85 #[.pointer (some ⟨b, 0, none⟩), evV ⟨6, t, o⟩] w fun r w' => r = .returned (.int .i64 0) ∧ Took w w' b { s with over := updB s.over o } := by
  have h1 := h.alloc (.cells (evC ⟨6, t, o⟩) 55)
  have h0 := Has.new w (evC ⟨6, t, o⟩) 55
  have hb : Below w.heap.size w (w.alloc (.cells (evC ⟨6, t, o⟩) 55)) := (Below.refl _ _).alloc (by simp) _
  have hlt := h.lt
  go_enter Tryz.func85, Tryz.ntmps85
  go_wp2_with fail
  generalize w.alloc (.cells (evC ⟨6, t, o⟩) 55) = w1 at *
  refine (isEvent_any ⟨6, t, o⟩ _).mono ?_
  rintro r w2 ⟨rfl, hk⟩
  rw [hE]
  replace h1 := h1.below hk h1.lt
  replace h0 := h0.below hk h0.lt
  replace hb := hb.trans (hk.mono hb.size)
  have hne : b ≠ w.heap.size := by omega
  clear hk hE
  have f1 : w2.cell? ⟨w.heap.size, 1, none⟩ = some (.int .i64 (t : Int)) := h0.cell rfl
  have f2 : w2.cell? ⟨w.heap.size, 2, none⟩ = some (.int .i64 (o : Int)) := h0.cell rfl
  have f0 : w2.cell? ⟨w.heap.size, 0, none⟩ = some (.int .i64 6) := h0.cell rfl
  have hb1 : w2.cell? ⟨b, t, none⟩ = some (.bool (s.begun t)) := h1.cell (stC_begun s t ht)
  have i0 : (0 : Int) ≤ t := by omega
  have i6 : (t : Int) < 6 := by omega
  have j0 : (0 : Int) ≤ o := by omega
  have j6 : (o : Int) < 6 := by omega
  have ho : w2.cell? ⟨b, o, none⟩ = some (.bool (s.begun o)) := h1.cell (stC_begun s o ho6)
  have fo := h1.free o
  rw [x3] at ho
  have y : ((o : Int) == (t : Int)) = false := by simp; omega
  have fo2 := h1.free (6 + o)
  have hq : w2.cell? ⟨b, 6 + o, none⟩ = some (.bool (s.over o)) := h1.cell (stC_over s o ho6)
  have hb2 : w2.cell? ⟨b, 6 + t, none⟩ = some (.bool (s.over t)) := h1.cell (stC_over s t ht)
  rw [x1] at hb1
  rw [x2] at hb2
  go_wp2
  go_quiet (fail)
  go_wp2
  go_quiet (fail)
  go_wp2
  go_region
  all_goals
    go_wp2
    go_ret
    refine ⟨rfl, ?_, ?_⟩
    · first | exact ((((h1.drewN _).drewN _).drew).setCell _ _).to (stC_setOver s o ho6) | exact (((h1.drewN _).drew).setCell _ _).to (stC_setOver s o ho6) | exact ((((h1.drewN _).drewN _).setCell _ _)).drew.to (stC_setOver s o ho6)
    · first | exact grown_set (grown_of ((below_drewN (below_drewN hb _) _).drew)) rfl _ | exact grown_set (grown_of (below_drewN hb _).drew) rfl _ | exact (grown_set (grown_of (below_drewN (below_drewN hb _) _)) rfl _).drewG

end Go.Proofs.YtfjbnhacfficnaaGreatDoor

/- Contracts of package trace: takes whole, first, played, Check, may. -/
namespace Go.Proofs.YtfjbnhacfficnaaGreatDoor
open Go.RowKit

theorem took_same {s s' : St} {w w' : World} {b : Nat} (h : Took w w' b s) (e : s = s') : Took w w' b s' := e ▸ h

theorem takes_any (s : St) (e : Ev) (b : Nat) (w : World) (h : Has w b (stC s) 211) :
    Calls Tryz.prog 85 #[.pointer (some ⟨b, 0, none⟩), evV e] w fun r w' => r = .returned (.int .i64 (err s e)) ∧ Took w w' b (if err s e = 0 then nxt s e else s) := by
  by_cases hE : isEv e = true
  · obtain ⟨K, t, o⟩ := e
    obtain ⟨h1, h2, h3, h4⟩ := isEv_iff.1 hE
    simp only at h1 h2 h3 h4
    have hp := manyOf_pos (k := K) (by omega)
    obtain ⟨t, rfl⟩ := Int.eq_ofNat_of_zero_le h1
    obtain ⟨o, rfl⟩ := Int.eq_ofNat_of_zero_le h3
    have ht : t < 6 := by omega
    by_cases x1 : s.begun t = true
    · by_cases x2 : s.over t = true
      · have he : err s ⟨K, t, o⟩ = 11 := by simp [err, hE, x1, x2]
        rw [he]; exact takes_over s K t o b w h hE ht x1 x2
      · have x2' : s.over t = false := by simpa using x2
        rcases hp with rfl | rfl | rfl | rfl | rfl | rfl | rfl | rfl
        · have he : err s ⟨1, t, o⟩ = 0 := by simp [err, hE, x1, x2']
          rw [he]; exact takes_plain1 s t o b w h hE ht x1 x2'
        · have he : err s ⟨2, t, o⟩ = 0 := by simp [err, hE, x1, x2']
          rw [he]; exact takes_plain2 s t o b w h hE ht x1 x2'
        · have ho : o < 5 := by simp [manyOf] at h4; omega
          by_cases x3 : s.owner o = 0
          · have he : err s ⟨3, t, o⟩ = 0 := by simp [err, hE, x1, x2', x3]
            rw [he]; exact takes_acquire s t o b w h hE ht x1 x2' ho x3
          · have he : err s ⟨3, t, o⟩ = 9 := by simp [err, hE, x1, x2', x3]
            rw [he]; exact takes_held s t o b w h hE ht x1 x2' ho x3
        · have ho : o < 5 := by simp [manyOf] at h4; omega
          by_cases x3 : s.owner o = t + 1
          · have he : err s ⟨4, t, o⟩ = 0 := by simp [err, hE, x1, x2', x3]
            rw [he]; exact takes_release s t o b w h hE ht x1 x2' ho x3
          · have he : err s ⟨4, t, o⟩ = 10 := by simp [err, hE, x1, x2', x3]
            rw [he]; exact takes_notheld s t o b w h hE ht x1 x2' ho x3
        · have ho : o < 6 := by simp [manyOf] at h4; omega
          by_cases x3 : s.begun o = true
          · have he : err s ⟨5, t, o⟩ = 8 := by simp [err, hE, x1, x2', x3]
            rw [he]; exact takes_twice s t o b w h hE ht x1 x2' ho x3
          · have x3' : s.begun o = false := by simpa using x3
            have he : err s ⟨5, t, o⟩ = 0 := by simp [err, hE, x1, x2', x3']
            rw [he]; exact takes_fork s t o b w h hE ht x1 x2' ho x3'
        · have ho : o < 6 := by simp [manyOf] at h4; omega
          by_cases x3 : s.begun o = true
          · by_cases x4 : o = t
            · subst x4
              have he : err s ⟨6, o, o⟩ = 7 := by simp [err, hE, x1, x2']
              rw [he]; exact takes_self s o b w h hE ht x1 x2'
            · have x4' : ¬ (o : Int) = (t : Int) := by omega
              have he : err s ⟨6, t, o⟩ = 0 := by simp [err, hE, x1, x2', x3, x4']
              rw [he]; exact takes_join s t o b w h hE ht x1 x2' ho x3 x4
          · have x3' : s.begun o = false := by simpa using x3
            have he : err s ⟨6, t, o⟩ = 7 := by simp [err, hE, x1, x2', x3']
            rw [he]; exact takes_none s t o b w h hE ht x1 x2' ho x3'
        · have he : err s ⟨7, t, o⟩ = 0 := by simp [err, hE, x1, x2']
          rw [he]; exact takes_plain7 s t o b w h hE ht x1 x2'
        · have he : err s ⟨8, t, o⟩ = 0 := by simp [err, hE, x1, x2']
          rw [he]; exact takes_plain8 s t o b w h hE ht x1 x2'
    · have x1' : s.begun t = false := by simpa using x1
      have he : err s ⟨K, t, o⟩ = 11 := by simp [err, hE, x1']
      rw [he]; exact takes_unbegun s K t o b w h hE ht x1'
  · have hE' : isEv e = false := by simpa using hE
    have he : err s e = 1 := by simp [err, hE']
    rw [he]; exact takes_bad s e b w h hE'

theorem first_any (w : World) : Calls Tryz.prog 84 #[] w fun r w' => r = .returned (.pointer (some ⟨w.heap.size, 0, none⟩)) ∧ Has w' w.heap.size (stC St.first) 211 ∧ Below w.heap.size w w' := by
  go_enter Tryz.func84, Tryz.ntmps84
  go_wp2
  go_ret
  exact ⟨rfl, (Has.new w _ _).to rfl, (Below.refl _ _).alloc (by simp) _⟩

/-- A slice of events: its elements read as a list. -/
structure EvS (w : World) (a : Option Addr) (l : List Ev) : Prop where
  big : l.length < 4611686018427387904
  ok : l = [] ∨ ∃ b o, a = some ⟨b, o, none⟩ ∧ ∀ i (h : i < l.length), w.cell? ⟨b, o + i * 3, none⟩ = some (.int .i64 l[i].k) ∧ w.cell? ⟨b, o + i * 3 + 1, none⟩ = some (.int .i64 l[i].t) ∧ w.cell? ⟨b, o + i * 3 + 2, none⟩ = some (.int .i64 l[i].o)
theorem EvS.below {w w' : World} {a : Option Addr} {l : List Ev} (h : EvS w a l) (k : Below w.heap.size w w') : EvS w' a l := by
  refine ⟨h.big, ?_⟩
  rcases h.ok with h0 | ⟨b, o, ha, hc⟩
  · exact .inl h0
  · refine .inr ⟨b, o, ha, fun i hi => ?_⟩
    obtain ⟨h1, h2, h3⟩ := hc i hi
    exact ⟨(k.cell (World.block_lt_of_cell? w _ h1)).trans h1, (k.cell (World.block_lt_of_cell? w _ h2)).trans h2, (k.cell (World.block_lt_of_cell? w _ h3)).trans h3⟩

set_option maxHeartbeats 1000000 in
theorem played_any (l : List Ev) (a : Option Addr) (c : Nat) (w : World) (h : EvS w a l) :
    Calls Tryz.prog 56 #[.slice a l.length c] w fun r w' => r = .returned (.tuple #[.pointer (some ⟨w.heap.size, 0, none⟩), .int .i64 (played l).2.1, .int .i64 (played l).2.2]) ∧ Has w' w.heap.size (stC (played l).1) 211 ∧ Below w.heap.size w w' := by
  have hbig := h.big
  have HS := Lib.hid h.ok
  by_cases hl : 80 < l.length
  · have hp : played l = (St.first, 0, 2) := by simp [played, hl]
    rw [hp]
    clear hp
    go_enter Tryz.func56, Tryz.ntmps56
    go_wp2_with fail
    refine (first_any _).mono ?_
    rintro r w' ⟨rfl, h1, hb⟩
    go_wp2
    go_ret3
    exact ⟨rfl, h1, hb⟩
  · have hl80 : l.length ≤ 80 := by omega
    have hp : played l = playL St.first 0 l := by simp [played, hl]
    rw [hp]
    clear hp hl
    go_enter Tryz.func56, Tryz.ntmps56
    go_wp2_with fail
    refine (first_any _).mono ?_
    rintro r w' ⟨rfl, h1, hb⟩
    go_wp2
    go_loopw [16] (fun i wr => ∃ (k : Nat) (s : St), k ≤ l.length ∧ i = .int .i64 k ∧ Hid (playL St.first 0 l = playL s k (l.drop k)) ∧ Has wr w.heap.size (stC s) 211 ∧ Below w.heap.size w wr) (fun i _ => l.length - (intOf i).toNat)
    case atStart => exact ⟨0, St.first, Nat.zero_le _, rfl, Lib.hid rfl, h1, hb⟩
    case round =>
      clear h1 hb
      obtain ⟨k, s, hk, rfl, HP, h1, hb⟩ := hrel
      by_cases hlt : k < l.length
      · obtain ⟨b, o, rfl, hc⟩ : ∃ b o, a = some ⟨b, o, none⟩ ∧ ∀ i (h : i < l.length), w.cell? ⟨b, o + i * 3, none⟩ = some (.int .i64 l[i].k) ∧ w.cell? ⟨b, o + i * 3 + 1, none⟩ = some (.int .i64 l[i].t) ∧ w.cell? ⟨b, o + i * 3 + 2, none⟩ = some (.int .i64 l[i].o) := by
          rcases HS.out with h0 | h0
          · simp [h0] at hlt
          · exact h0
        clear HS
        obtain ⟨c0, c1, c2⟩ := hc k hlt
        clear hc
        have hbl := World.block_lt_of_cell? w _ c0
        simp only at hbl
        have d0 := (hb.cell (p := ⟨b, o + k * 3, none⟩) hbl).trans c0
        have d1 := (hb.cell (p := ⟨b, o + k * 3 + 1, none⟩) hbl).trans c1
        have d2 := (hb.cell (p := ⟨b, o + k * 3 + 2, none⟩) hbl).trans c2
        clear c0 c1 c2
        have hd : l.drop k = l[k] :: l.drop (k + 1) := List.drop_eq_getElem_cons hlt
        generalize hx : l[k] = x at *
        have HD := Lib.hid hd
        clear hd hx
        by_cases he : err s x = 0
        · have hn : playL St.first 0 l = playL (nxt s x) (k + 1) (l.drop (k + 1)) := by rw [HP.out, HD.out]; simp [playL, he]
          have HN := Lib.hid hn
          clear hn HP HD
          have h1' := h1.alloc (.cells (evC x) 55)
          have hb' := hb.alloc hb.size (.cells (evC x) 55)
          go_wp2_with fail
          refine (takes_any s x _ _ h1').mono ?_
          rintro r w2 ⟨rfl, ht⟩
          rw [he] at ht ⊢
          rw [if_pos rfl] at ht
          have hb2 := hb'.grown ht.grown hb'.size (by intro j hj; cases hj; exact Nat.le_refl _)
          have h2 := ht.has
          clear ht he h1' hb' h1 hb d0 d1 d2
          go_wp2
          go_roundw
          case rel => exact ⟨k + 1, _, by omega, by go_num, HN, h2, hb2⟩
          case measure => simp [intOf]; omega
        · have hn : playL St.first 0 l = (s, k, err s x) := by rw [HP.out, HD.out]; simp [playL, he]
          have HN := Lib.hid hn
          have hne : (err s x != 0) = true := by simpa using he
          clear hn HP HD
          have h1' := h1.alloc (.cells (evC x) 55)
          have hb' := hb.alloc hb.size (.cells (evC x) 55)
          go_wp2_with fail
          refine (takes_any s x _ _ h1').mono ?_
          rintro r w2 ⟨rfl, ht⟩
          rw [if_neg he] at ht
          have hb2 := hb'.grown ht.grown hb'.size (by intro j hj; cases hj; exact Nat.le_refl _)
          have h2 := ht.has
          clear ht he h1' hb' h1 hb d0 d1 d2
          go_wp2
          go_ret3
          rw [HN.out]
          exact ⟨rfl, h2, hb2⟩
      · obtain rfl : k = l.length := by omega
        have hn : playL St.first 0 l = (s, 0, 0) := by rw [HP.out]; simp [playL]
        have HN := Lib.hid hn
        clear hn HP
        go_wp2
        go_ret3
        rw [HN.out]
        exact ⟨rfl, h1, hb⟩

theorem check_any (l : List Ev) (a : Option Addr) (c : Nat) (w : World) (h : EvS w a l) :
    Calls Tryz.prog 30 #[.slice a l.length c] w fun r w' => r = .returned (.tuple #[.int .i64 (played l).2.1, .int .i64 (played l).2.2]) ∧ Below w.heap.size w w' := by
  go_enter Tryz.func30, Tryz.ntmps30
  go_wp2_with fail
  refine (played_any l a c _ h).mono ?_
  rintro r w' ⟨rfl, h1, hb⟩
  go_wp2
  go_ret2
  exact ⟨rfl, hb⟩
end Go.Proofs.YtfjbnhacfficnaaGreatDoor

/- Plain laws of traces: prefixes, appended events, errors. No program. -/
namespace Go.Proofs.YtfjbnhacfficnaaGreatDoor

theorem playL_append (m : List Ev) : ∀ (l : List Ev) (s : St) (i : Nat), playL s i (l ++ m) = if (playL s i l).2.2 = 0 then playL (playL s i l).1 (i + l.length) m else playL s i l
  | [], s, i => by simp [playL]
  | e :: l, s, i => by
    simp only [List.cons_append, playL]
    split
    · rw [playL_append m l]
      simp only [List.length_cons, show i + (l.length + 1) = i + 1 + l.length by omega]
    · simp
theorem playL_at0 : ∀ (l : List Ev) (s : St) (i : Nat), (playL s i l).2.2 = 0 → (playL s i l).2.1 = 0
  | [], s, i, _ => rfl
  | e :: l, s, i, h => by
    simp only [playL] at *
    split
    · rename_i he; rw [if_pos he] at h; exact playL_at0 l _ _ h
    · rename_i he; rw [if_neg he] at h; exact absurd h he
theorem playL_ok_prefix {l m : List Ev} {s : St} {i : Nat} (h : (playL s i (l ++ m)).2.2 = 0) : (playL s i l).2.2 = 0 := by
  rw [playL_append] at h
  split at h
  · assumption
  · assumption
theorem playL_ok_take {l : List Ev} {s : St} {i : Nat} (n : Nat) (h : (playL s i l).2.2 = 0) : (playL s i (l.take n)).2.2 = 0 := by
  rw [← List.take_append_drop n l] at h
  exact playL_ok_prefix h
/-- Where a list is wrong: all ahead of it is right, and up to it it is as wrong. -/
theorem playL_err : ∀ (l : List Ev) (s : St) (i : Nat), (playL s i l).2.2 ≠ 0 → ∃ j, j < l.length ∧ (playL s i l).2.1 = i + j ∧ (playL s i (l.take j)).2.2 = 0 ∧ playL s i (l.take (j + 1)) = playL s i l
  | [], s, i, h => absurd rfl h
  | e :: l, s, i, h => by
    by_cases he : err s e = 0
    · simp only [playL, he, if_true] at h ⊢
      obtain ⟨j, hj, h1, h2, h3⟩ := playL_err l (nxt s e) (i + 1) h
      refine ⟨j + 1, by simpa using hj, by rw [h1]; omega, ?_, ?_⟩
      · simp only [List.take_succ_cons, playL, he, if_true]; exact h2
      · simp only [List.take_succ_cons, playL, he, if_true]; exact h3
    · refine ⟨0, by simp, ?_, ?_, ?_⟩ <;> simp [playL, he]
theorem err_vals (s : St) (e : Ev) : err s e = 0 ∨ err s e = 1 ∨ err s e = 11 ∨ err s e = 9 ∨ err s e = 10 ∨ err s e = 8 ∨ err s e = 7 := by
  unfold err
  (repeat' split) <;> simp
theorem playL_ne2 : ∀ (l : List Ev) (s : St) (i : Nat), (playL s i l).2.2 ≠ 2
  | [], s, i => by simp [playL]
  | e :: l, s, i => by
    simp only [playL]
    split
    · exact playL_ne2 l _ _
    · have := err_vals s e
      show err s e ≠ 2
      omega
def mayB (l : List Ev) : Bool := (played l).2.2 == 0
theorem mayB_iff {l : List Ev} : mayB l = true ↔ l.length ≤ 80 ∧ (playL St.first 0 l).2.2 = 0 := by
  unfold mayB played
  split
  · simp; omega
  · simp; omega
theorem played_large {l : List Ev} : (played l).2.2 = 2 ↔ 80 < l.length := by
  unfold played
  split
  · simp; omega
  · simp only [playL_ne2, false_iff]; omega
theorem played_at {l : List Ev} (h : (played l).2.2 = 0 ∨ (played l).2.2 = 2) : (played l).2.1 = 0 := by
  unfold played at *
  split
  · rfl
  · rename_i hl
    rw [if_neg hl] at h
    rcases h with h | h
    · exact playL_at0 _ _ _ h
    · exact absurd h (playL_ne2 _ _ _)
theorem mayB_take {l : List Ev} (n : Nat) (h : mayB l = true) : mayB (l.take n) = true := by
  obtain ⟨h1, h2⟩ := mayB_iff.1 h
  exact mayB_iff.2 ⟨by simp; omega, playL_ok_take n h2⟩
theorem played_small {l : List Ev} (h : l.length ≤ 80) : played l = playL St.first 0 l := by simp [played]; omega
/-- An error that is no matter of length: its place is in the list; ahead of it the list is right, with it it is not. -/
theorem played_err {l : List Ev} (h0 : (played l).2.2 ≠ 0) (h2 : (played l).2.2 ≠ 2) : (played l).2.1 < l.length ∧ mayB (l.take (played l).2.1) = true ∧ mayB (l.take ((played l).2.1 + 1)) = false := by
  have hl : l.length ≤ 80 := by
    by_cases h : l.length ≤ 80
    · exact h
    · exact absurd (played_large.2 (by omega)) h2
  rw [played_small hl] at *
  obtain ⟨j, hj, h1, h3, h4⟩ := playL_err l St.first 0 h0
  rw [h1, Nat.zero_add]
  refine ⟨hj, mayB_iff.2 ⟨by simp; omega, h3⟩, ?_⟩
  rw [Bool.eq_false_iff]
  intro hm
  have := (mayB_iff.1 hm).2
  rw [h4] at this
  exact h0 this
end Go.Proofs.YtfjbnhacfficnaaGreatDoor

/- Lists that the contracts name. No program. -/
namespace Go.Proofs.YtfjbnhacfficnaaGreatDoor

/-- The threads that have begun. -/
def thrL (s : St) (k : Nat) : List Int := ((List.range k).filter fun i => s.begun i).map fun i : Nat => (i : Int)
theorem thrL_zero (s : St) : thrL s 0 = [] := rfl
theorem thrL_yes (s : St) (k : Nat) (h : s.begun k = true) : thrL s (k + 1) = thrL s k ++ [(k : Int)] := by simp [thrL, List.range_succ, List.filter_append, h]
theorem thrL_no (s : St) (k : Nat) (h : s.begun k = false) : thrL s (k + 1) = thrL s k := by simp [thrL, List.range_succ, List.filter_append, h]
theorem thrL_len (s : St) (k : Nat) : (thrL s k).length ≤ k := by simpa [thrL] using List.length_filter_le (fun i => s.begun i) (List.range k)
abbrev ints (l : List Int) : List Value := l.map fun n => Value.int .i64 n
end Go.Proofs.YtfjbnhacfficnaaGreatDoor

/- Slices of ints; membership and equality of lists. No program. -/
namespace Go.Proofs.YtfjbnhacfficnaaGreatDoor
open Go.RowKit

/-- Is it in a list? (a plain definition, which the walk leaves alone) -/
def hasB {α : Type} [DecidableEq α] (l : List α) (x : α) : Bool := decide (x ∈ l)
theorem hasB_iff {α : Type} [DecidableEq α] {l : List α} {x : α} : hasB l x = true ↔ x ∈ l := by simp [hasB]
/-- Are two lists equal? -/
def eqB {α : Type} [DecidableEq α] (l m : List α) : Bool := decide (l = m)
theorem eqB_iff {α : Type} [DecidableEq α] {l m : List α} : eqB l m = true ↔ l = m := by simp [eqB]

/-- A slice of ints: its elements read as a list. -/
structure IntS (w : World) (a : Option Addr) (l : List Int) : Prop where
  big : l.length < 4611686018427387904
  ok : l = [] ∨ ∃ b o, a = some ⟨b, o, none⟩ ∧ ∀ i (h : i < l.length), w.cell? ⟨b, o + i, none⟩ = some (.int .i64 l[i])
theorem IntS.below {w w' : World} {a : Option Addr} {l : List Int} (h : IntS w a l) (k : Below w.heap.size w w') : IntS w' a l := by
  refine ⟨h.big, ?_⟩
  rcases h.ok with h0 | ⟨b, o, ha, hc⟩
  · exact .inl h0
  · exact .inr ⟨b, o, ha, fun i hi => (k.cell (World.block_lt_of_cell? w _ (hc i hi))).trans (hc i hi)⟩
theorem IntS.at {w : World} {a : Option Addr} {l : List Int} (h : IntS w a l) {i : Nat} (hi : i < l.length) : ∃ b o, a = some ⟨b, o, none⟩ ∧ w.cell? ⟨b, o + i, none⟩ = some (.int .i64 l[i]) := by
  rcases h.ok with h0 | ⟨b, o, ha, hc⟩
  · simp [h0] at hi
  · exact ⟨b, o, ha, hc i hi⟩

end Go.Proofs.YtfjbnhacfficnaaGreatDoor

/- Plain laws of traces: who has begun; who owns a lock. No program. -/
namespace Go.Proofs.YtfjbnhacfficnaaGreatDoor

theorem err0 {s : St} {e : Ev} (h : err s e = 0) : isEv e = true ∧ s.begun e.t.toNat = true ∧ s.over e.t.toNat = false ∧
    (e.k = 3 → s.owner e.o.toNat = 0) ∧ (e.k = 4 → s.owner e.o.toNat = e.t + 1) ∧ (e.k = 5 → s.begun e.o.toNat = false) ∧ (e.k = 6 → s.begun e.o.toNat = true ∧ e.o ≠ e.t) := by
  unfold err at h
  by_cases h1 : isEv e = false
  · rw [if_pos h1] at h; omega
  rw [if_neg h1] at h
  by_cases h2 : s.begun e.t.toNat = false ∨ s.over e.t.toNat = true
  · rw [if_pos h2] at h; omega
  rw [if_neg h2] at h
  have h2' : s.begun e.t.toNat = true ∧ s.over e.t.toNat = false := by
    constructor
    · cases hb : s.begun e.t.toNat <;> simp_all
    · cases hb : s.over e.t.toNat <;> simp_all
  refine ⟨by simpa using h1, h2'.1, h2'.2, ?_, ?_, ?_, ?_⟩
  · intro hk; rw [if_pos hk] at h; split at h
    · assumption
    · omega
  · intro hk; rw [if_neg (by omega), if_pos hk] at h; split at h
    · assumption
    · omega
  · intro hk; rw [if_neg (by omega), if_neg (by omega), if_pos hk] at h; split at h
    · omega
    · rename_i hn; simpa using hn
  · intro hk; rw [if_neg (by omega), if_neg (by omega), if_neg (by omega), if_pos hk] at h; split at h
    · omega
    · rename_i hn
      constructor
      · cases hb : s.begun e.o.toNat
        · exact absurd (.inl hb) hn
        · rfl
      · exact fun he => hn (.inr he)

def forksOf (l : List Ev) : Nat := (l.filter fun e => e.k == 5).length
theorem filter_upd (f : Nat → Bool) (o : Nat) (hf : f o = false) : ∀ (L : List Nat), L.Nodup → o ∈ L → (L.filter (updB f o)).length = (L.filter f).length + 1
  | [], _, h => by simp at h
  | x :: L, hn, h => by
    rw [List.nodup_cons] at hn
    by_cases hx : x = o
    · subst hx
      have h3 : L.filter (updB f x) = L.filter f := List.filter_congr fun y hy => by
        have hne : y ≠ x := by rintro rfl; exact hn.1 hy
        simp only [updB, if_neg hne]
      have h4 : updB f x x = true := by simp [updB]
      rw [List.filter_cons_of_pos h4, List.filter_cons_of_neg (by simp [hf]), h3, List.length_cons]
    · have ho : o ∈ L := by
        rcases List.mem_cons.1 h with h | h
        · exact absurd h.symm hx
        · exact h
      have ih := filter_upd f o hf L hn.2 ho
      have hu : updB f o x = f x := by simp [updB, hx]
      simp only [List.filter_cons, hu]
      split
      · simp [ih]
      · exact ih
theorem thrL_length (s : St) : (thrL s 6).length = ((List.range 6).filter s.begun).length := by simp [thrL]
theorem mem_thrL {s : St} {x : Int} : x ∈ thrL s 6 ↔ 0 ≤ x ∧ x < 6 ∧ s.begun x.toNat = true := by
  simp only [thrL, List.mem_map, List.mem_filter, List.mem_range]
  constructor
  · rintro ⟨j, ⟨h1, h2⟩, rfl⟩
    exact ⟨by omega, by omega, by simpa using h2⟩
  · rintro ⟨h1, h2, h3⟩
    exact ⟨x.toNat, ⟨by omega, h3⟩, by omega⟩
theorem nxt_begun {s : St} {e : Ev} {j : Nat} (h : s.begun j = true) : (nxt s e).begun j = true := by
  unfold nxt
  (repeat' split) <;> try exact h
  simp only [updB]; split <;> simp [h]
theorem playL_begun : ∀ (l : List Ev) (s : St) (i : Nat) (j : Nat), s.begun j = true → (playL s i l).1.begun j = true
  | [], _, _, _, h => h
  | e :: l, s, i, j, h => by
    simp only [playL]; split
    · exact playL_begun l _ _ _ (nxt_begun h)
    · exact h
/-- Of a right list: who has begun in the end. -/
theorem playL_threads : ∀ (l : List Ev) (s : St) (i : Nat), (playL s i l).2.2 = 0 →
    ((List.range 6).filter (playL s i l).1.begun).length = ((List.range 6).filter s.begun).length + forksOf l ∧
    ∀ e ∈ l, e.t ∈ thrL (playL s i l).1 6 ∧ (e.k = 5 → e.o ∈ thrL (playL s i l).1 6)
  | [], s, i, _ => by simp [playL, forksOf]
  | e :: l, s, i, h => by
    simp only [playL] at h ⊢
    by_cases he : err s e = 0
    · rw [if_pos he] at h ⊢
      obtain ⟨h1, h2⟩ := playL_threads l (nxt s e) (i + 1) h
      obtain ⟨v1, v2, v3, _, _, v6, _⟩ := err0 he
      obtain ⟨t0, t6, o0, oM⟩ := isEv_iff.1 v1
      have hcount : ((List.range 6).filter (nxt s e).begun).length = ((List.range 6).filter s.begun).length + (if e.k = 5 then 1 else 0) := by
        by_cases hk : e.k = 5
        · rw [if_pos hk]
          have hm : e.o.toNat < 6 := by simp [hk, manyOf] at oM; omega
          have : (nxt s e).begun = updB s.begun e.o.toNat := by simp [nxt, hk]
          rw [this]
          exact filter_upd s.begun _ (v6 hk) _ List.nodup_range (by simpa using hm)
        · rw [if_neg hk, Nat.add_zero]
          have : (nxt s e).begun = s.begun := by unfold nxt; (repeat' split) <;> first | rfl | omega
          rw [this]
      refine ⟨?_, ?_⟩
      · rw [h1, hcount]
        by_cases hk : e.k = 5
        · simp [forksOf, hk]; omega
        · simp [forksOf, hk]
      · intro x hx
        rcases List.mem_cons.1 hx with rfl | hx
        · refine ⟨mem_thrL.2 ⟨t0, t6, playL_begun _ _ _ _ (nxt_begun v2)⟩, fun hk => ?_⟩
          have hm : x.o < 6 := by simp [hk, manyOf] at oM; omega
          exact mem_thrL.2 ⟨o0, hm, playL_begun _ _ _ _ (by simp [nxt, hk, updB])⟩
        · exact h2 x hx
    · rw [if_neg he] at h
      exact absurd h he
end Go.Proofs.YtfjbnhacfficnaaGreatDoor

/- A valid trace: its length and its events. -/
namespace Go.Proofs.YtfjbnhacfficnaaGreatDoor

theorem played_evs {l : List Ev} (h : (played l).2.2 = 0) : l.length ≤ 80 ∧ ∀ e ∈ l, isEv e = true := by
  have hl80 : l.length ≤ 80 := by
    by_cases hl : l.length ≤ 80
    · exact hl
    · have := played_large.2 (show 80 < l.length by omega); omega
  refine ⟨hl80, ?_⟩
  rw [played_small hl80] at h
  revert h
  generalize St.first = s
  generalize 0 = i
  clear hl80
  induction l generalizing s i with
  | nil => intro _ e he; simp at he
  | cons x l ih =>
    intro h e he
    simp only [playL] at h
    by_cases hx : err s x = 0
    · rw [if_pos hx] at h
      rcases List.mem_cons.1 he with rfl | he
      · exact (err0 hx).1
      · exact ih _ _ h e he
    · rw [if_neg hx] at h; exact absurd h hx
end Go.Proofs.YtfjbnhacfficnaaGreatDoor

/- A desk, plain: lines answered one behind the other by a function of what the desk holds and the line. -/
namespace Go.Proofs.YtfjbnhacfficnaaGreatDoor

section
variable {σ β : Type} (F : σ → β → β × σ)
/-- What it holds behind lines. -/
def dkS : σ → List β → σ
  | l, [] => l
  | l, s :: r => dkS (F l s).2 r
/-- What it answers. -/
def dkA : σ → List β → List β
  | _, [] => []
  | l, s :: r => (F l s).1 :: dkA (F l s).2 r
theorem dkA_len : ∀ (r : List β) (l : σ), (dkA F l r).length = r.length
  | [], _ => rfl
  | s :: r, l => by simp [dkA, dkA_len r]
theorem dkA_append : ∀ (a b : List β) (l : σ), dkA F l (a ++ b) = dkA F l a ++ dkA F (dkS F l a) b
  | [], _, _ => rfl
  | s :: a, b, l => by simp [dkA, dkS, dkA_append a b]
theorem dkS_append : ∀ (a b : List β) (l : σ), dkS F l (a ++ b) = dkS F (dkS F l a) b
  | [], _, _ => rfl
  | s :: a, b, l => by simp [dkS, dkS_append a b]
theorem dkA_take (l : σ) (r : List β) {k : Nat} (hk : k < r.length) : dkA F l (r.take (k + 1)) = dkA F l (r.take k) ++ [(F (dkS F l (r.take k)) r[k]).1] := by
  rw [List.take_add_one, List.getElem?_eq_getElem hk, dkA_append]
  rfl
theorem dkS_take (l : σ) (r : List β) {k : Nat} (hk : k < r.length) : dkS F l (r.take (k + 1)) = (F (dkS F l (r.take k)) r[k]).2 := by
  rw [List.take_add_one, List.getElem?_eq_getElem hk, dkS_append]
  rfl
theorem dkA_get (l : σ) (r : List β) {k : Nat} (hk : k < r.length) : (dkA F l r)[k]'(by rw [dkA_len]; exact hk) = (F (dkS F l (r.take k)) r[k]).1 := by
  have h : dkA F l r = dkA F l (r.take k) ++ dkA F (dkS F l (r.take k)) (r.drop k) := by rw [← dkA_append, List.take_append_drop]
  have hd : r.drop k = r[k] :: r.drop (k + 1) := List.drop_eq_getElem_cons hk
  have hl : (dkA F l (r.take k)).length = k := by rw [dkA_len, List.length_take]; omega
  have h2 : (dkA F l r)[k]? = some (F (dkS F l (r.take k)) r[k]).1 := by
    rw [h, List.getElem?_append_right (by omega), hl, Nat.sub_self, hd]
    rfl
  exact (List.getElem?_eq_some_iff.1 h2).2
/-- A line that sets back. -/
theorem dkA_clear {c o : β} {z : σ} (hc : ∀ l, F l c = (o, z)) (l : σ) (a b : List β) : dkA F l (a ++ c :: b) = dkA F l a ++ o :: dkA F z b := by
  rw [dkA_append]
  simp [dkA, hc]
/-- The lines whose answers are no errors. -/
def dkG (e : β → Bool) : σ → List β → List β
  | _, [] => []
  | l, s :: r => if e (F l s).1 then dkG e (F l s).2 r else s :: dkG e (F l s).2 r
theorem dkG_append (e : β → Bool) : ∀ (a b : List β) (l : σ), dkG F e l (a ++ b) = dkG F e l a ++ dkG F e (dkS F l a) b
  | [], _, _ => rfl
  | s :: a, b, l => by
    simp only [List.cons_append, dkG, dkS, dkG_append e a b]
    split <;> simp
theorem dkG_take (e : β → Bool) (l : σ) (r : List β) {k : Nat} (hk : k < r.length) : dkG F e l (r.take (k + 1)) = dkG F e l (r.take k) ++ (if e (F (dkS F l (r.take k)) r[k]).1 then [] else [r[k]]) := by
  rw [List.take_add_one, List.getElem?_eq_getElem hk, dkG_append]
  rfl
theorem dkG_sub (e : β → Bool) : ∀ (r : List β) (l : σ), (dkG F e l r).length ≤ r.length ∧ ∀ x ∈ dkG F e l r, x ∈ r
  | [], _ => ⟨Nat.le_refl _, fun _ h => h⟩
  | s :: r, l => by
    obtain ⟨h1, h2⟩ := dkG_sub e r (F l s).2
    unfold dkG
    split
    · exact ⟨by simp; omega, fun x hx => List.mem_cons_of_mem _ (h2 x hx)⟩
    · refine ⟨by simp; omega, fun x hx => ?_⟩
      rcases List.mem_cons.1 hx with rfl | hx
      · exact List.mem_cons_self
      · exact List.mem_cons_of_mem _ (h2 x hx)
/-- Lines that end in an error leave no trace. -/
theorem dkG_run (e : β → Bool) (h : ∀ l s, e (F l s).1 = true → (F l s).2 = l) : ∀ (r : List β) (l : σ), dkA F l (dkG F e l r) = (dkA F l r).filter fun x => !e x
  | [], _ => rfl
  | s :: r, l => by
    have ih := dkG_run e h r (F l s).2
    unfold dkG
    by_cases he : e (F l s).1 = true
    · rw [if_pos he]
      rw [h l s he] at ih ⊢
      rw [ih]
      simp [dkA, he, h l s he]
    · rw [if_neg he]
      simp [dkA, he, ih]
end
end Go.Proofs.YtfjbnhacfficnaaGreatDoor
