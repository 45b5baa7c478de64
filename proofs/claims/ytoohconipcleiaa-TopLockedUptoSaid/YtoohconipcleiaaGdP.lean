/- Guards, plain: which locks each thread has at each event; what is known of a variable's locks; warnings; common locks. No program. -/
import Derived.Test.YtoohconipcleiaaMB
namespace Go.Proofs.Ytoohconipcleiaa

def bitN (o : Int) : Nat := 2 ^ o.toNat
def upH (f : Nat → Nat) (k x : Nat) : Nat → Nat := fun i => if i = k then x else f i
/-- The locks of each thread behind an event. -/
def hStep (H : Nat → Nat) (e : Ev) : Nat → Nat :=
  if e.k = 3 then upH H e.t.toNat (H e.t.toNat ||| bitN e.o) else if e.k = 4 then upH H e.t.toNat (H e.t.toNat &&& (31 ^^^ bitN e.o)) else H
def isAcc (e : Ev) : Bool := e.k == 1 || e.k == 2
/-- What is known of a variable. -/
structure GV where
  st : Int
  th : Int
  lk : Nat
def gAcc (g : GV) (e : Ev) (L : Nat) : GV :=
  if g.st = 0 then ⟨1, e.t, g.lk⟩
  else if g.st = 1 ∧ g.th = e.t then g
  else if g.st = 1 ∧ e.k = 2 then ⟨3, g.th, L⟩
  else if g.st = 1 then ⟨2, g.th, L⟩
  else ⟨if e.k = 2 then 3 else g.st, g.th, g.lk &&& L⟩
structure GS where
  H : Nat → Nat
  G : Nat → GV
  W : List Ev
def upG (f : Nat → GV) (k : Nat) (x : GV) : Nat → GV := fun i => if i = k then x else f i
def gWarn (g : GV) : Bool := g.st == 3 && g.lk == 0
def gStep (s : GS) (i : Nat) (e : Ev) : GS :=
  if isAcc e then
    ⟨hStep s.H e, upG s.G e.o.toNat (gAcc (s.G e.o.toNat) e (hStep s.H e e.t.toNat)), if gWarn (gAcc (s.G e.o.toNat) e (hStep s.H e e.t.toNat)) then s.W ++ [⟨i, e.o, 0⟩] else s.W⟩
  else ⟨hStep s.H e, s.G, s.W⟩
/-- Behind the first i events. -/
def gdL (l : List Ev) : Nat → GS
  | 0 => ⟨fun _ => 0, fun _ => ⟨0, 0, 31⟩, []⟩
  | i + 1 => gStep (gdL l i) i (evAt l i)
/-- The locks that a thread has at event i. -/
def lkAt (l : List Ev) (i : Nat) : Nat := hStep (gdL l i).H (evAt l i) (evAt l i).t.toNat
/-- The common locks of a variable's accesses among the first i events. -/
def coL (l : List Ev) (x : Int) : Nat → Nat
  | 0 => 31
  | i + 1 => if isAcc (evAt l i) && (evAt l i).o == x then coL l x i &&& lkAt l i else coL l x i
theorem bitN_lt {o : Int} (h : o < 5) : bitN o < 32 := by
  unfold bitN
  have : o.toNat ≤ 4 := by omega
  calc 2 ^ o.toNat ≤ 2 ^ 4 := Nat.pow_le_pow_right (by decide) this
    _ < 32 := by decide
theorem hStep_lt {H : Nat → Nat} {e : Ev} (hH : ∀ t, H t < 32) (he : isEv e = true) : ∀ t, hStep H e t < 32 := by
  intro t
  obtain ⟨_, _, o0, oM⟩ := isEv_iff.1 he
  unfold hStep
  split
  · rename_i hk
    rw [hk] at oM
    unfold upH
    split
    · exact Nat.or_lt_two_pow (n := 5) (hH _) (bitN_lt oM)
    · exact hH t
  · split
    · unfold upH
      split
      · exact Nat.lt_of_le_of_lt Nat.and_le_left (hH _)
      · exact hH t
    · exact hH t
structure GOk (s : GS) (i : Nat) : Prop where
  H : ∀ t, s.H t < 32
  lk : ∀ x, (s.G x).lk < 32
  st : ∀ x, 0 ≤ (s.G x).st ∧ (s.G x).st ≤ 3
  th : ∀ x, 0 ≤ (s.G x).th ∧ (s.G x).th < 6
  W : s.W.length ≤ i
theorem gAcc_lk {g : GV} {e : Ev} {L : Nat} (h : g.lk < 32) (hL : L < 32) : (gAcc g e L).lk < 32 := by
  unfold gAcc
  split
  · exact h
  · split
    · exact h
    · split
      · exact hL
      · split
        · exact hL
        · exact Nat.lt_of_le_of_lt Nat.and_le_left h
theorem gAcc_st {g : GV} {e : Ev} {L : Nat} (h : 0 ≤ g.st ∧ g.st ≤ 3) : 0 ≤ (gAcc g e L).st ∧ (gAcc g e L).st ≤ 3 := by
  unfold gAcc
  split
  · simp only; omega
  · split
    · exact h
    · split
      · simp only; omega
      · split
        · simp only; omega
        · simp only; split <;> omega
theorem gAcc_th {g : GV} {e : Ev} {L : Nat} (h : 0 ≤ g.th ∧ g.th < 6) (he : isEv e = true) : 0 ≤ (gAcc g e L).th ∧ (gAcc g e L).th < 6 := by
  obtain ⟨t0, t6, _⟩ := isEv_iff.1 he
  unfold gAcc
  split
  · exact ⟨t0, t6⟩
  · split
    · exact h
    · split
      · exact h
      · split <;> exact h
theorem GOk.step {s : GS} {i : Nat} {e : Ev} (h : GOk s i) (he : isEv e = true) : GOk (gStep s i e) (i + 1) := by
  have hh := hStep_lt h.H he
  unfold gStep
  split
  · refine ⟨hh, fun x => ?_, fun x => ?_, fun x => ?_, ?_⟩
    · show (upG s.G _ _ x).lk < 32
      unfold upG; split
      · exact gAcc_lk (h.lk _) (hh _)
      · exact h.lk x
    · show 0 ≤ (upG s.G _ _ x).st ∧ (upG s.G _ _ x).st ≤ 3
      unfold upG; split
      · exact gAcc_st (h.st _)
      · exact h.st x
    · show 0 ≤ (upG s.G _ _ x).th ∧ (upG s.G _ _ x).th < 6
      unfold upG; split
      · exact gAcc_th (h.th _) he
      · exact h.th x
    · have := h.W
      show List.length (if _ then _ else _) ≤ _
      split
      · simp; exact this
      · omega
  · exact ⟨hh, h.lk, h.st, h.th, by have := h.W; show s.W.length ≤ _; omega⟩
theorem gdL_ok {l : List Ev} (h : (played l).2.2 = 0) : ∀ {i : Nat}, i ≤ l.length → GOk (gdL l i) i
  | 0, _ => ⟨fun _ => by show (0 : Nat) < 32; decide, fun _ => by show (31 : Nat) < 32; decide, fun _ => ⟨by show (0 : Int) ≤ 0; decide, by show (0 : Int) ≤ 3; decide⟩, fun _ => ⟨by show (0 : Int) ≤ 0; decide, by show (0 : Int) < 6; decide⟩, Nat.le_refl _⟩
  | i + 1, hi => (gdL_ok h (by omega)).step (isEv_iff.2 (ev_at h (by omega)))
theorem lkAt_lt {l : List Ev} (h : (played l).2.2 = 0) {i : Nat} (hi : i < l.length) : lkAt l i < 32 := hStep_lt (gdL_ok h (Nat.le_of_lt hi)).H (isEv_iff.2 (ev_at h hi)) _
theorem coL_lt (l : List Ev) (x : Int) : ∀ i, coL l x i < 32
  | 0 => by show (31 : Nat) < 32; decide
  | i + 1 => by
    unfold coL
    split
    · exact Nat.lt_of_le_of_lt Nat.and_le_left (coL_lt l x i)
    · exact coL_lt l x i
set_option maxRecDepth 100000 in
theorem orT : ∀ a : Fin 32, ∀ k : Fin 5, IntKind.i64.wrap (BitVec.ofInt 64 (a.val : Int) ||| BitVec.ofInt 64 ((2 ^ k.val : Nat) : Int)).toNat = ((a.val ||| 2 ^ k.val : Nat) : Int) := by decide +kernel
set_option maxRecDepth 100000 in
theorem anT : ∀ a : Fin 32, ∀ k : Fin 5, IntKind.i64.wrap (BitVec.ofInt 64 (a.val : Int) &&& ~~~BitVec.ofInt 64 ((2 ^ k.val : Nat) : Int)).toNat = ((a.val &&& (31 ^^^ 2 ^ k.val) : Nat) : Int) := by decide +kernel
set_option maxRecDepth 100000 in
theorem adT : ∀ a b : Fin 32, IntKind.i64.wrap (BitVec.ofInt 64 (a.val : Int) &&& BitVec.ofInt 64 (b.val : Int)).toNat = ((a.val &&& b.val : Nat) : Int) := by decide +kernel
end Go.Proofs.Ytoohconipcleiaa
