/- Joined texts. -/
import Derived.Test.YtmeidjhojanogaaDoorBase
import Derived.Deep.MidRow
import Derived.Test.YtmeidjhojanogaaDoorMB
import Derived.Test.YtmeidjhojanogaaDoorMJ
import Derived.Test.YtmeidjhojanogaaDoorMX
import Derived.Test.YtmeidjhojanogaaDoorMO
import Derived.StillTactics
import Derived.Laws.Pointers
import Derived.Deep.RegionHeld3
import Derived.Deep.RegionLaw
import Derived.BigRegion

/- Blocks of ints, known by a function; ranges of six of them. No program. -/
namespace Go.Proofs.YtmeidjhojanogaaDoor
open Go.RowKit

/-- A row of n ints. -/
def rowI (n : Nat) (f : Nat → Int) : Array Value := ((List.range n).map fun i => Value.int .i64 (f i)).toArray
theorem rowI_get (n : Nat) (f : Nat → Int) {k : Nat} (hk : k < n) : (rowI n f)[k]? = some (.int .i64 (f k)) := by simp [rowI, hk]
theorem rowI_size (n : Nat) (f : Nat → Int) : (rowI n f).size = n := by simp [rowI]
theorem rowI_congr {n : Nat} {f g : Nat → Int} (h : ∀ i, i < n → f i = g i) : rowI n f = rowI n g := by
  unfold rowI
  congr 1
  exact List.map_congr_left fun i hi => by rw [h i (List.mem_range.1 hi)]
theorem rowI_set (n : Nat) (f : Nat → Int) (k : Nat) (x : Int) : (rowI n f).setIfInBounds k (.int .i64 x) = rowI n fun i => if i = k then x else f i := by
  apply Array.ext_getElem?
  intro i
  rw [Array.getElem?_setIfInBounds]
  by_cases hk : k = i
  · subst hk
    by_cases hn : k < n
    · simp [rowI, hn]
    · simp [rowI, hn]
  · have hne : ¬ i = k := fun e => hk e.symm
    by_cases hn : i < n
    · rw [rowI_get n _ hn, rowI_get n _ hn]; simp [hk, hne]
    · simp [rowI, hk, List.getElem?_eq_none (show (List.range n).length ≤ i by simp; omega)]
theorem Has.addI {w : World} {b : Nat} {n : Nat} {f : Nat → Int} {t : TypeId} (h : Has w b (rowI n f) t) {k : Nat} (hk : k < n) : w.cell? ⟨b, k, none⟩ = some (.int .i64 (f k)) := h.cell (rowI_get n f hk)
/-- Six of the row. -/
theorem Has.six {w : World} {b : Nat} {n : Nat} {f : Nat → Int} {t : TypeId} (h : Has w b (rowI n f) t) {o : Nat} (ho : o + 6 ≤ n) (g : Nat → Int) (hg : ∀ i, i < 6 → g i = f (o + i)) : w.rangeAt b o (clkC g).toList := by
  intro j v hv
  have hj : j < 6 := by have := (List.getElem?_eq_some_iff.1 hv).1; simpa [clkC] using this
  rw [Array.getElem?_toList, clkC_get g j hj] at hv
  rw [← hv, hg j hj]
  exact h.addI (by omega)
theorem Has.there6 {w : World} {b : Nat} {n : Nat} {f : Nat → Int} {t : TypeId} (h : Has w b (rowI n f) t) {o m : Nat} (ho : o + m ≤ n) : w.there b o m := by
  intro j hj
  refine ⟨by rw [h.addI (show o + j < n by omega)]; rfl, h.free _⟩
theorem Has.setSix {w : World} {b : Nat} {n : Nat} {f : Nat → Int} {t : TypeId} (h : Has w b (rowI n f) t) (o : Nat) (g F : Nat → Int) (hF : ∀ i, i < n → F i = if o ≤ i ∧ i < o + 6 then g (i - o) else f i) : Has (w.setCells b o (clkC g).toList) b (rowI n F) t := by
  have h6 := ((((((h.setCell o (.int .i64 (g 0))).setCell (o + 1) (.int .i64 (g 1))).setCell (o + 1 + 1) (.int .i64 (g 2))).setCell (o + 1 + 1 + 1) (.int .i64 (g 3))).setCell (o + 1 + 1 + 1 + 1) (.int .i64 (g 4))).setCell (o + 1 + 1 + 1 + 1 + 1) (.int .i64 (g 5)))
  simp only [rowI_set] at h6
  refine Has.to h6 (rowI_congr fun i hi => ?_)
  rw [hF i hi]
  by_cases e : o ≤ i ∧ i < o + 6
  · rw [if_pos e]
    rcases (by omega : i = o ∨ i = o + 1 ∨ i = o + 2 ∨ i = o + 3 ∨ i = o + 4 ∨ i = o + 5) with rfl | rfl | rfl | rfl | rfl | rfl
    all_goals
      simp only [Nat.add_assoc, Nat.reduceAdd, Nat.add_sub_cancel_left, Nat.sub_self, Nat.add_left_cancel_iff, if_true, if_false, Nat.reduceEqDiff]
      try (first | rfl | (repeat (first | rw [if_neg (by omega)] | rw [if_pos (by omega)])))
  · rw [if_neg e]
    have e0 : ¬ i = o := by omega
    have e1 : ¬ i = o + 1 := by omega
    have e2 : ¬ i = o + 1 + 1 := by omega
    have e3 : ¬ i = o + 1 + 1 + 1 := by omega
    have e4 : ¬ i = o + 1 + 1 + 1 + 1 := by omega
    have e5 : ¬ i = o + 1 + 1 + 1 + 1 + 1 := by omega
    simp only [e0, e1, e2, e3, e4, e5, if_false]
theorem Has.setCells_ne {w : World} {b b' : Nat} {t : TypeId} {cs : Array Value} (h : Has w b cs t) (hb : b ≠ b') : ∀ (vs : List Value) (o : Nat), Has (w.setCells b' o vs) b cs t := by
  intro vs
  induction vs generalizing w with
  | nil => intro o; exact h
  | cons v vs ih => intro o; exact ih (h.setCell_ne (by exact hb) v) (o + 1)
theorem setCells_size (b : Nat) : ∀ (vs : List Value) (o : Nat) (w : World), (w.setCells b o vs).heap.size = w.heap.size
  | [], _, _ => rfl
  | v :: r, o, w => by rw [World.setCells, setCells_size b r]; simp [World.setCell]
theorem grownBy_setCells {w w' : World} {b : Nat} (h : w.grownBy w' (some b)) : ∀ (vs : List Value) (o : Nat), w.grownBy (w'.setCells b o vs) (some b) := by
  intro vs
  induction vs generalizing w' with
  | nil => intro o; exact h
  | cons v vs ih =>
    intro o
    have hs : w.grownBy (w'.setCell ⟨b, o, none⟩ v) (some b) := ⟨h.os, h.tape, h.output, by simpa [World.setCell] using h.size, fun k hk hne => (Below.heap_setCell w' ⟨b, o, none⟩ v k (by intro e; exact hne (by rw [e]))).trans (h.block k hk hne)⟩
    exact ih hs (o + 1)
theorem Below.setCells' {B : Nat} {w w' : World} {b : Nat} (h : Below B w w') (hb : B ≤ b) : ∀ (vs : List Value) (o : Nat), Below B w (w'.setCells b o vs) := by
  intro vs
  induction vs generalizing w' with
  | nil => intro o; exact h
  | cons v vs ih => intro o; exact ih (h.setCell (by exact hb) v) (o + 1)
theorem _root_.Go.World.grownBy.trans_below {w w1 w2 : World} {row : Option Nat} (h : w.grownBy w1 row) (k : Below w1.heap.size w1 w2) : w.grownBy w2 row :=
  ⟨k.os.trans h.os, k.tape.trans h.tape, k.output.trans h.output, Nat.le_trans h.size k.size, fun i hi hne => (k.block i (Nat.lt_of_lt_of_le hi h.size)).trans (h.block i hi hne)⟩
theorem clkC_one (g : Nat → Int) : (clkC g).all (·.oneCell') = true := by simp [clkC, Value.oneCell']
end Go.Proofs.YtmeidjhojanogaaDoor

/- A block read whole, stored whole. -/
namespace Go.Proofs.YtmeidjhojanogaaDoor
open Go.RowKit

theorem Has.rangeW {w : World} {b : Nat} {cs : Array Value} {t : TypeId} (h : Has w b cs t) : w.rangeAt b 0 cs.toList := by
  intro j v hv
  rw [Array.getElem?_toList] at hv
  rw [Nat.zero_add]
  exact h.cell hv
theorem Has.load {P : Program} {w : World} {b : Nat} {cs : Array Value} {t : TypeId} {d : TypeDesc} (h : Has w b cs t) (hu : P.underlying t = some d) (hd : d.isRow = true) (hi : (P.info? t).map (·.size) = some cs.size) :
    (Instr.loadAt t (.pointer (some ⟨b, 0, none⟩))).run P w = .ok (.agg cs) w := by
  have := run_loadAt_mid (P := P) w b 0 t cs.toList d h.rangeW hu hd (by simpa using hi)
  simpa using this
theorem Has.loadVar {P : Program} {w : World} {b : Nat} {cs : Array Value} {t : TypeId} {d : TypeDesc} (h : Has w b cs t) (hu : P.underlying t = some d) (hd : d.isRow = true) (hi : (P.info? t).map (·.size) = some cs.size) :
    (loadVar t ⟨b, 0, none⟩).run P w = .ok (.agg cs) w := by
  have := run_loadVar_mid (P := P) w b 0 t cs.toList d h.rangeW hu hd (by simpa using hi)
  simpa using this
theorem Has.thereW {w : World} {b : Nat} {cs : Array Value} {t : TypeId} (h : Has w b cs t) : w.there b 0 cs.size := by
  intro j hj
  rw [Nat.zero_add]
  refine ⟨?_, h.free j⟩
  rw [h.cell (Array.getElem?_eq_getElem hj)]
  rfl
theorem Has.store {P : Program} {w : World} {b : Nat} {cs new : Array Value} {t : TypeId} (h : Has w b cs t) (hi : (P.info? t).map (·.size) = some new.size) (hs : new.size = cs.size) (h1 : new.all (·.oneCell') = true) :
    (Instr.storeAt t (.pointer (some ⟨b, 0, none⟩)) (.agg new)).run P w = .ok () (w.setCells b 0 new.toList) :=
  run_storeAt_mid (P := P) w b 0 t new (by rw [hs]; exact h.thereW) hi h1
theorem Has.setSame {w : World} {b : Nat} {cs : Array Value} {t : TypeId} (h : Has w b cs t) {i : Nat} {v : Value} (hv : cs[i]? = some v) : w.setCell ⟨b, i, none⟩ v = w := by
  have hb := h.out
  unfold World.setCell
  have : w.heap.modify b (fun o => match o with | .cells c t f => .cells (c.setIfInBounds i v) t f | o => o) = w.heap := by
    apply Array.ext_getElem?
    intro j
    rw [Array.getElem?_modify]
    split
    · rename_i e
      subst e
      rw [hb]
      simp only [Option.map_some]
      congr 2
      apply Array.ext_getElem?
      intro k
      rw [Array.getElem?_setIfInBounds]
      split
      · rename_i e2
        subst e2
        split
        · exact hv.symm
        · rename_i hk
          have := (Array.getElem?_eq_some_iff.1 hv).1
          exact absurd this hk
      · rfl
    · rfl
  exact congrArg (fun x => { w with heap := x }) this
theorem Has.setSames {w : World} {b : Nat} {cs : Array Value} {t : TypeId} (h : Has w b cs t) : ∀ (vs : List Value) (o : Nat), (∀ j v, vs[j]? = some v → cs[o + j]? = some v) → w.setCells b o vs = w
  | [], _, _ => rfl
  | v :: vs, o, hv => by
    rw [World.setCells, h.setSame (i := o) (by simpa using hv 0 v rfl)]
    exact h.setSames vs (o + 1) fun j u hu => by rw [show o + 1 + j = o + (j + 1) by omega]; exact hv (j + 1) u hu
/-- What lies there is stored again: nothing changes. -/
theorem Has.storeSame {P : Program} {w : World} {b : Nat} {cs : Array Value} {t : TypeId} (h : Has w b cs t) (hi : (P.info? t).map (·.size) = some cs.size) (h1 : cs.all (·.oneCell') = true) :
    (Instr.storeAt t (.pointer (some ⟨b, 0, none⟩)) (.agg cs)).run P w = .ok () w := by
  rw [h.store hi rfl h1, h.setSames cs.toList 0 fun j v hv => by rw [Nat.zero_add, ← Array.getElem?_toList]; exact hv]
theorem setCells_append (b : Nat) : ∀ (vs us : List Value) (o : Nat) (w : World), w.setCells b o (vs ++ us) = (w.setCells b o vs).setCells b (o + vs.length) us
  | [], us, o, w => by simp [World.setCells]
  | v :: vs, us, o, w => by
    simp only [List.cons_append, World.setCells, List.length_cons]
    rw [setCells_append b vs us (o + 1), show o + 1 + vs.length = o + (vs.length + 1) by omega]
theorem rowI_one (n : Nat) (f : Nat → Int) : (rowI n f).all (·.oneCell') = true := by
  refine all_oneCell_toArray fun v hv => ?_
  simp only [List.mem_map] at hv
  obtain ⟨i, _, rfl⟩ := hv
  rfl
/-- Another row of as many ints is stored. -/
theorem Has.setAll {w : World} {b n : Nat} {f g : Nat → Int} {t : TypeId} (h : Has w b (rowI n f) t) : Has (w.setCells b 0 (rowI n g).toList) b (rowI n g) t := by
  have key : ∀ k, k ≤ n → Has (w.setCells b 0 ((List.range k).map fun i => Value.int .i64 (g i))) b (rowI n fun i => if i < k then g i else f i) t := by
    intro k
    induction k with
    | zero => intro _; exact h.to (rowI_congr fun i _ => by simp)
    | succ k ih =>
      intro hk
      have h2 := (ih (by omega)).setCell k (.int .i64 (g k))
      rw [rowI_set] at h2
      rw [List.range_succ, List.map_append, setCells_append]
      simp only [List.length_map, List.length_range, Nat.zero_add, List.map_cons, List.map_nil, World.setCells]
      refine h2.to (rowI_congr fun i _ => ?_)
      by_cases e : i = k
      · subst e; simp
      · by_cases e2 : i < k
        · rw [if_neg e, if_pos e2, if_pos (by omega)]
        · rw [if_neg e, if_neg e2, if_neg (by omega)]
  have := key n (Nat.le_refl _)
  rw [rowI]
  refine Has.to this (rowI_congr fun i hi => by rw [if_pos hi])
end Go.Proofs.YtmeidjhojanogaaDoor

/- Clocks of events: the keeper's state, plain. No program. -/
namespace Go.Proofs.YtmeidjhojanogaaDoor

/-- Clocks of threads, locks and signals. -/
structure Kp where
  th : Nat → Nat → Int
  lk : Nat → Nat → Int
  vo : Nat → Nat → Int
def Kp.first : Kp := ⟨fun _ _ => 0, fun _ _ => 0, fun _ _ => 0⟩
def updC (F : Nat → Nat → Int) (k : Nat) (f : Nat → Int) : Nat → Nat → Int := fun i => if i = k then f else F i
/-- What a thread knows ahead of its tick. -/
def kPre (s : Kp) (e : Ev) : Nat → Int :=
  if e.k = 3 then cmax (s.th e.t.toNat) (s.lk e.o.toNat)
  else if e.k = 7 then cmax (s.th e.t.toNat) (s.vo e.o.toNat)
  else if e.k = 6 then cmax (s.th e.t.toNat) (s.th e.o.toNat)
  else s.th e.t.toNat
def tickC (f : Nat → Int) (t : Nat) : Nat → Int := fun i => if i = t then f i + 1 else f i
/-- The clock of an event. -/
def kMine (s : Kp) (e : Ev) : Nat → Int := tickC (kPre s e) e.t.toNat
def kNext (s : Kp) (e : Ev) : Kp :=
  if e.k = 4 then { s with th := updC s.th e.t.toNat (kMine s e), lk := updC s.lk e.o.toNat (cmax (s.lk e.o.toNat) (kMine s e)) }
  else if e.k = 8 then { s with th := updC s.th e.t.toNat (kMine s e), vo := updC s.vo e.o.toNat (cmax (s.vo e.o.toNat) (kMine s e)) }
  else if e.k = 5 then { s with th := updC (updC s.th e.t.toNat (kMine s e)) e.o.toNat (kMine s e) }
  else { s with th := updC s.th e.t.toNat (kMine s e) }
/-- The state behind i events; the clock of event i. -/
def kAt (l : List Ev) : Nat → Kp
  | 0 => Kp.first
  | i + 1 => kNext (kAt l i) (evAt l i)
def stampOf (l : List Ev) (i : Nat) : Nat → Int := kMine (kAt l i) (evAt l i)
end Go.Proofs.YtmeidjhojanogaaDoor

/- The detectors' clocks in memory. -/
namespace Go.Proofs.YtmeidjhojanogaaDoor
open Go.RowKit

/-- The keeper's cells, by place. -/
def kpF (s : Kp) (i : Nat) : Int := if i < 36 then s.th (i / 6) (i % 6) else if i < 66 then s.lk ((i - 36) / 6) ((i - 36) % 6) else s.vo ((i - 66) / 6) ((i - 66) % 6)
abbrev kpC (s : Kp) : Array Value := rowI 90 (kpF s)
theorem kpF_th (s : Kp) {t i : Nat} (ht : t < 6) (hi : i < 6) : kpF s (t * 6 + i) = s.th t i := by
  have h1 : (t * 6 + i) / 6 = t := by omega
  have h2 : (t * 6 + i) % 6 = i := by omega
  rw [kpF, if_pos (by omega), h1, h2]
theorem kpF_lk (s : Kp) {t i : Nat} (ht : t < 5) (hi : i < 6) : kpF s (36 + t * 6 + i) = s.lk t i := by
  have h1 : (36 + t * 6 + i - 36) / 6 = t := by omega
  have h2 : (36 + t * 6 + i - 36) % 6 = i := by omega
  rw [kpF, if_neg (by omega), if_pos (by omega), h1, h2]
theorem kpF_vo (s : Kp) {t i : Nat} (ht : t < 4) (hi : i < 6) : kpF s (66 + t * 6 + i) = s.vo t i := by
  have h1 : (66 + t * 6 + i - 66) / 6 = t := by omega
  have h2 : (66 + t * 6 + i - 66) % 6 = i := by omega
  rw [kpF, if_neg (by omega), if_neg (by omega), h1, h2]
theorem kpF_setTh (s : Kp) {t : Nat} (ht : t < 6) (g : Nat → Int) (i : Nat) (hi : i < 90) : kpF { s with th := updC s.th t g } i = if t * 6 ≤ i ∧ i < t * 6 + 6 then g (i - t * 6) else kpF s i := by
  unfold kpF updC
  by_cases e : t * 6 ≤ i ∧ i < t * 6 + 6
  · rw [if_pos e, if_pos (by omega)]
    simp only
    rw [if_pos (by omega), show i % 6 = i - t * 6 by omega]
  · rw [if_neg e]
    split
    · simp only; rw [if_neg (by omega)]
    · rfl
theorem kpF_setLk (s : Kp) {t : Nat} (ht : t < 5) (g : Nat → Int) (i : Nat) (hi : i < 90) : kpF { s with lk := updC s.lk t g } i = if 36 + t * 6 ≤ i ∧ i < 36 + t * 6 + 6 then g (i - (36 + t * 6)) else kpF s i := by
  unfold kpF updC
  by_cases e : 36 + t * 6 ≤ i ∧ i < 36 + t * 6 + 6
  · rw [if_pos e, if_neg (by omega), if_pos (by omega)]
    simp only
    rw [if_pos (by omega), show (i - 36) % 6 = i - (36 + t * 6) by omega]
  · rw [if_neg e]
    split
    · rfl
    · split
      · simp only; rw [if_neg (by omega)]
      · rfl
theorem kpF_setVo (s : Kp) {t : Nat} (ht : t < 4) (g : Nat → Int) (i : Nat) (hi : i < 90) : kpF { s with vo := updC s.vo t g } i = if 66 + t * 6 ≤ i ∧ i < 66 + t * 6 + 6 then g (i - (66 + t * 6)) else kpF s i := by
  unfold kpF updC
  by_cases e : 66 + t * 6 ≤ i ∧ i < 66 + t * 6 + 6
  · rw [if_pos e, if_neg (by omega), if_neg (by omega)]
    simp only
    rw [if_pos (by omega), show (i - 66) % 6 = i - (66 + t * 6) by omega]
  · rw [if_neg e]
    split
    · rfl
    · split
      · rfl
      · simp only; rw [if_neg (by omega)]
theorem Has.th6 {w : World} {b : Nat} {s : Kp} (h : Has w b (kpC s) 124) {t : Nat} (ht : t < 6) :
    w.cell? ⟨b, t * 6, none⟩ = some (.int .i64 (s.th t 0)) ∧ w.cell? ⟨b, t * 6 + 1, none⟩ = some (.int .i64 (s.th t 1)) ∧ w.cell? ⟨b, t * 6 + 2, none⟩ = some (.int .i64 (s.th t 2)) ∧
    w.cell? ⟨b, t * 6 + 3, none⟩ = some (.int .i64 (s.th t 3)) ∧ w.cell? ⟨b, t * 6 + 4, none⟩ = some (.int .i64 (s.th t 4)) ∧ w.cell? ⟨b, t * 6 + 5, none⟩ = some (.int .i64 (s.th t 5)) := by
  refine ⟨?_, ?_, ?_, ?_, ?_, ?_⟩ <;> (rw [h.addI (by omega)]; (first | rw [kpF_th s ht (by omega)] | (have := kpF_th s ht (show 0 < 6 by omega); rw [Nat.add_zero] at this; rw [this])))
theorem Has.lk6 {w : World} {b : Nat} {s : Kp} (h : Has w b (kpC s) 124) {t : Nat} (ht : t < 5) :
    w.cell? ⟨b, 36 + t * 6, none⟩ = some (.int .i64 (s.lk t 0)) ∧ w.cell? ⟨b, 36 + t * 6 + 1, none⟩ = some (.int .i64 (s.lk t 1)) ∧ w.cell? ⟨b, 36 + t * 6 + 2, none⟩ = some (.int .i64 (s.lk t 2)) ∧
    w.cell? ⟨b, 36 + t * 6 + 3, none⟩ = some (.int .i64 (s.lk t 3)) ∧ w.cell? ⟨b, 36 + t * 6 + 4, none⟩ = some (.int .i64 (s.lk t 4)) ∧ w.cell? ⟨b, 36 + t * 6 + 5, none⟩ = some (.int .i64 (s.lk t 5)) := by
  refine ⟨?_, ?_, ?_, ?_, ?_, ?_⟩ <;> (rw [h.addI (by omega)]; (first | rw [kpF_lk s ht (by omega)] | (have := kpF_lk s ht (show 0 < 6 by omega); rw [Nat.add_zero] at this; rw [this])))
theorem Has.vo6 {w : World} {b : Nat} {s : Kp} (h : Has w b (kpC s) 124) {t : Nat} (ht : t < 4) :
    w.cell? ⟨b, 66 + t * 6, none⟩ = some (.int .i64 (s.vo t 0)) ∧ w.cell? ⟨b, 66 + t * 6 + 1, none⟩ = some (.int .i64 (s.vo t 1)) ∧ w.cell? ⟨b, 66 + t * 6 + 2, none⟩ = some (.int .i64 (s.vo t 2)) ∧
    w.cell? ⟨b, 66 + t * 6 + 3, none⟩ = some (.int .i64 (s.vo t 3)) ∧ w.cell? ⟨b, 66 + t * 6 + 4, none⟩ = some (.int .i64 (s.vo t 4)) ∧ w.cell? ⟨b, 66 + t * 6 + 5, none⟩ = some (.int .i64 (s.vo t 5)) := by
  refine ⟨?_, ?_, ?_, ?_, ?_, ?_⟩ <;> (rw [h.addI (by omega)]; (first | rw [kpF_vo s ht (by omega)] | (have := kpF_vo s ht (show 0 < 6 by omega); rw [Nat.add_zero] at this; rw [this])))
theorem clk_size : (Tryd.prog.info? 95).map (·.size) = some 6 := by kernel_rfl
structure KTook (w w' : World) (b : Nat) (s : Kp) : Prop where
  has : Has w' b (kpC s) 124
  grown : w.grownBy w' (some b)

theorem kpF_tick (s : Kp) {t : Nat} (ht : t < 6) (g : Nat → Int) (i : Nat) (hi : i < 90) : kpF { s with th := updC s.th t (tickC g t) } i = if i = t * 6 + t then g t + 1 else kpF { s with th := updC s.th t g } i := by
  rw [kpF_setTh s ht _ i hi, kpF_setTh s ht _ i hi]
  by_cases e : i = t * 6 + t
  · subst e
    rw [if_pos (by omega), if_pos rfl, show t * 6 + t - t * 6 = t by omega]
    simp [tickC]
  · rw [if_neg e]
    by_cases e2 : t * 6 ≤ i ∧ i < t * 6 + 6
    · rw [if_pos e2, if_pos e2]
      have : ¬ i - t * 6 = t := by omega
      simp [tickC, this]
    · rw [if_neg e2, if_neg e2]
theorem kpF_same (s : Kp) {t : Nat} (ht : t < 6) (i : Nat) (hi : i < 90) : kpF { s with th := updC s.th t (s.th t) } i = kpF s i := by
  rw [kpF_setTh s ht _ i hi]
  split
  · rename_i e
    obtain ⟨j, rfl⟩ : ∃ j, i = t * 6 + j := ⟨i - t * 6, by omega⟩
    rw [show t * 6 + j - t * 6 = j by omega, kpF_th s ht (by omega)]
  · rfl
theorem grownBy_setNew {w w' : World} {row : Option Nat} (h : w.grownBy w' row) {a : Addr} (ha : w.heap.size ≤ a.block) (v : Value) : w.grownBy (w'.setCell a v) row :=
  ⟨h.os, h.tape, h.output, by simpa [World.setCell] using h.size, fun k hk hne => (Below.heap_setCell w' a v k (by omega)).trans (h.block k hk hne)⟩
/-- All numbers of the keeper are small. -/
structure KB (s : Kp) : Prop where
  th : ∀ a τ, 0 ≤ s.th a τ ∧ s.th a τ ≤ 1000
  lk : ∀ a τ, 0 ≤ s.lk a τ ∧ s.lk a τ ≤ 1000
  vo : ∀ a τ, 0 ≤ s.vo a τ ∧ s.vo a τ ≤ 1000
/-- An event that is no access. -/
def kSync (s : Kp) (e : Ev) : Kp :=
  if e.k = 3 then { s with th := updC s.th e.t.toNat (cmax (s.th e.t.toNat) (s.lk e.o.toNat)) }
  else if e.k = 4 then { s with lk := updC s.lk e.o.toNat (s.th e.t.toNat), th := updC s.th e.t.toNat (tickC (s.th e.t.toNat) e.t.toNat) }
  else if e.k = 5 then { s with th := updC (updC s.th e.o.toNat (cmax (s.th e.o.toNat) (s.th e.t.toNat))) e.t.toNat (tickC ((updC s.th e.o.toNat (cmax (s.th e.o.toNat) (s.th e.t.toNat))) e.t.toNat) e.t.toNat) }
  else if e.k = 6 then { s with th := updC s.th e.t.toNat (cmax (s.th e.t.toNat) (s.th e.o.toNat)) }
  else if e.k = 7 then { s with th := updC s.th e.t.toNat (cmax (s.th e.t.toNat) (s.vo e.o.toNat)) }
  else if e.k = 8 then { s with vo := updC s.vo e.o.toNat (cmax (s.vo e.o.toNat) (s.th e.t.toNat)), th := updC s.th e.t.toNat (tickC (s.th e.t.toNat) e.t.toNat) }
  else s
def Fk.kp (s : Fk) : Kp := ⟨s.C, s.lk, s.vo⟩
theorem kSync_eq (s : Fk) (e : Ev) : kSync s.kp e = (fSync s e).kp := by
  unfold kSync fSync
  repeat' split
  all_goals rfl
/-- All numbers are at most n. -/
structure KBn (n : Int) (s : Kp) : Prop where
  th : ∀ a τ, 0 ≤ s.th a τ ∧ s.th a τ ≤ n
  lk : ∀ a τ, 0 ≤ s.lk a τ ∧ s.lk a τ ≤ n
  vo : ∀ a τ, 0 ≤ s.vo a τ ∧ s.vo a τ ≤ n
theorem KBn.kb {n : Int} {s : Kp} (h : KBn n s) (hn : n ≤ 1000) : KB s :=
  ⟨fun a τ => ⟨(h.th a τ).1, Int.le_trans (h.th a τ).2 hn⟩, fun a τ => ⟨(h.lk a τ).1, Int.le_trans (h.lk a τ).2 hn⟩, fun a τ => ⟨(h.vo a τ).1, Int.le_trans (h.vo a τ).2 hn⟩⟩
def In (n : Int) (F : Nat → Nat → Int) : Prop := ∀ a τ, 0 ≤ F a τ ∧ F a τ ≤ n
theorem In.up {n m : Int} {F : Nat → Nat → Int} (h : In n F) (hm : n ≤ m) : In m F := fun a τ => ⟨(h a τ).1, Int.le_trans (h a τ).2 hm⟩
theorem In.upd {n : Int} {F : Nat → Nat → Int} (h : In n F) (k : Nat) {f : Nat → Int} (hf : ∀ τ, 0 ≤ f τ ∧ f τ ≤ n) : In n (updC F k f) := by
  intro a τ
  simp only [updC]
  split
  · exact hf τ
  · exact h a τ
theorem cmax_in {n : Int} {f g : Nat → Int} (hf : ∀ τ, 0 ≤ f τ ∧ f τ ≤ n) (hg : ∀ τ, 0 ≤ g τ ∧ g τ ≤ n) : ∀ τ, 0 ≤ cmax f g τ ∧ cmax f g τ ≤ n := by
  intro τ
  have := hf τ
  have := hg τ
  simp only [cmax]
  omega
theorem tick_in {n : Int} {f : Nat → Int} (hf : ∀ τ, 0 ≤ f τ ∧ f τ ≤ n) (t : Nat) : ∀ τ, 0 ≤ tickC f t τ ∧ tickC f t τ ≤ n + 1 := by
  intro τ
  have := hf τ
  simp only [tickC]
  split <;> omega
theorem KBn.sync {n : Int} {s : Kp} (h : KBn n s) (e : Ev) : KBn (n + 1) (kSync s e) := by
  obtain ⟨h1, h2, h3⟩ := h
  have h1 : In n s.th := h1
  have h2 : In n s.lk := h2
  have h3 : In n s.vo := h3
  have u1 := h1.up (show n ≤ n + 1 by omega)
  have u2 := h2.up (show n ≤ n + 1 by omega)
  have u3 := h3.up (show n ≤ n + 1 by omega)
  unfold kSync
  split
  · exact ⟨(u1.upd _ (cmax_in (u1 _) (u2 _))), u2, u3⟩
  · split
    · exact ⟨u1.upd _ (tick_in (h1 _) _), u2.upd _ (u1 _), u3⟩
    · split
      · have hq := h1.upd e.o.toNat (cmax_in (h1 e.o.toNat) (h1 e.t.toNat))
        exact ⟨(hq.up (show n ≤ n + 1 by omega)).upd _ (tick_in (hq _) _), u2, u3⟩
      · split
        · exact ⟨(u1.upd _ (cmax_in (u1 _) (u1 _))), u2, u3⟩
        · split
          · exact ⟨(u1.upd _ (cmax_in (u1 _) (u3 _))), u2, u3⟩
          · split
            · exact ⟨u1.upd _ (tick_in (h1 _) _), u2, u3.upd _ (cmax_in (u3 _) (u1 _))⟩
            · exact ⟨u1, u2, u3⟩
theorem KBn.at (l : List Ev) : ∀ m : Nat, KBn ((m : Int) + 1) (fAt l m).kp
  | 0 => ⟨fun a τ => by simp only [fAt, Fk.first, Fk.kp]; split <;> simp, fun a τ => by simp [fAt, Fk.first, Fk.kp], fun a τ => by simp [fAt, Fk.first, Fk.kp]⟩
  | m + 1 => by
    have := (KBn.at l m).sync (evAt l m)
    rw [kSync_eq] at this
    exact this
end Go.Proofs.YtmeidjhojanogaaDoor
