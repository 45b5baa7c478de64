/- Joined texts. -/
import Derived.Test.YtfjbnhacfficnaaGreatDoorZA
import Derived.Test.YtfjbnhacfficnaaGreatDoorChecked
import Derived.Test.YtfjbnhacfficnaaGreatDoorZB
import Derived.Deep.OwnRows
import Derived.IntWalk
import Derived.Deep.RegionHeld3
import Derived.StillTailTactics

/- What is directly ahead of what; the rows of 'ahead'. No program. -/
namespace Go.Proofs.YtfjbnhacfficnaaGreatDoor

/-- Is an event directly ahead of a later one? -/
def dirE (a b : Ev) : Bool :=
  decide (a.t = b.t) || ((decide (a.k = 4 ∧ b.k = 3) || decide (a.k = 8 ∧ b.k = 7) || decide (a.k = 5 ∧ b.k = 6)) && decide (a.o = b.o)) || decide (a.k = 5 ∧ a.o = b.t) || decide (b.k = 6 ∧ b.o = a.t)
theorem dirE_iff {a b : Ev} : dirE a b = true ↔ a.t = b.t ∨ ((a.k = 4 ∧ b.k = 3 ∨ a.k = 8 ∧ b.k = 7 ∨ a.k = 5 ∧ b.k = 6) ∧ a.o = b.o) ∨ (a.k = 5 ∧ a.o = b.t) ∨ (b.k = 6 ∧ b.o = a.t) := by
  simp [dirE, or_assoc]
/-- The event at a place. -/
def evAt (l : List Ev) (i : Nat) : Ev := l.getD i ⟨0, 0, 0⟩
/-- One row of 'ahead', from place i downwards. -/
def rowDn (l : List Ev) (prev : Nat → Nat → Bool) (b : Ev) : Nat → (Nat → Bool) → (Nat → Bool)
  | 0, cur => cur
  | i + 1, cur => rowDn l prev b i (if cur i = false ∧ dirE (evAt l i) b = true then fun k => (if k = i then true else cur k) || prev i k else cur)
/-- The first j rows. -/
def rowsTo (l : List Ev) : Nat → Nat → Nat → Bool
  | 0 => fun _ _ => false
  | j + 1 => fun r k => if r = j then rowDn l (rowsTo l j) (evAt l j) j (fun _ => false) k else rowsTo l j r k
end Go.Proofs.YtfjbnhacfficnaaGreatDoor

/- Contracts of package order: directly. -/
namespace Go.Proofs.YtfjbnhacfficnaaGreatDoor
open Go.RowKit

set_option maxHeartbeats 8000000 in
theorem directly_any (a b : Ev) (w : World) : Calls Tryz.prog 97 #[evV a, evV b] w fun r w' => r = .returned (.bool (dirE a b)) ∧ Below w.heap.size w w' := by
  obtain ⟨k, t, o⟩ := a
  obtain ⟨k', t', o'⟩ := b
  go_enter Tryz.func97, Tryz.ntmps97
  go_wp2
  all_goals
    go_ret
    refine ⟨ret_bool ?_, ((Below.refl _ _).alloc (by simp) _).alloc (by simp) _⟩
    rw [Bool.eq_iff_iff, dirE_iff]
    simp
    simp only [beq_iff_eq, beq_eq_false_iff_ne, ne_eq] at *
    omega
end Go.Proofs.YtfjbnhacfficnaaGreatDoor

/- Rows of bits in memory. -/
namespace Go.Proofs.YtfjbnhacfficnaaGreatDoor
open Go.RowKit

/-- A row of bits; the row of rows, of which the first 'cnt' are made. -/
def bRow (n : Nat) (f : Nat → Bool) : Array Value := ((List.range n).map fun k => Value.bool (f k)).toArray
def rRow (n cnt : Nat) (B : Nat → Nat) : Array Value := ((List.range n).map fun r => if r < cnt then Value.slice (some ⟨B r, 0, none⟩) n n else Value.slice none 0 0).toArray
theorem bRow_get (n : Nat) (f : Nat → Bool) {k : Nat} (hk : k < n) : (bRow n f)[k]? = some (.bool (f k)) := by simp [bRow, hk]
theorem rRow_get (n cnt : Nat) (B : Nat → Nat) {r : Nat} (hr : r < n) (hc : r < cnt) : (rRow n cnt B)[r]? = some (.slice (some ⟨B r, 0, none⟩) n n) := by simp [rRow, hr, hc]
theorem rRow_get0 (n cnt : Nat) (B : Nat → Nat) {r : Nat} (hr : r < n) (hc : ¬ r < cnt) : (rRow n cnt B)[r]? = some (.slice none 0 0) := by simp [rRow, hr, hc]
def updM (M : Nat → Nat → Bool) (r k : Nat) (x : Bool) : Nat → Nat → Bool := fun a b => if a = r ∧ b = k then x else M a b
theorem bRow_set (n : Nat) (f : Nat → Bool) (k : Nat) (x : Bool) : (bRow n f).setIfInBounds k (.bool x) = bRow n fun i => if i = k then x else f i := by
  apply Array.ext_getElem?
  intro i
  by_cases hi : i < n
  · rw [bRow_get n _ hi, Array.getElem?_setIfInBounds]
    by_cases hk : k = i
    · subst hk
      have hs : k < (bRow n f).size := by simp [bRow, hi]
      simp [hs]
    · have : ¬ i = k := fun e => hk e.symm
      simp [hk, this, bRow_get n f hi]
  · have h1 : (bRow n fun i => if i = k then x else f i)[i]? = none := by simp [bRow]; omega
    rw [h1]
    simp [bRow]; omega
theorem rRow_set (n cnt : Nat) (B : Nat → Nat) (N : Nat) (_hc : cnt < n) : (rRow n cnt B).setIfInBounds cnt (.slice (some ⟨N, 0, none⟩) n n) = rRow n (cnt + 1) fun r => if r = cnt then N else B r := by
  apply Array.ext_getElem?
  intro i
  by_cases hi : i < n
  · rw [Array.getElem?_setIfInBounds]
    by_cases hk : cnt = i
    · subst hk
      have hs : cnt < (rRow n cnt B).size := by simp [rRow, hi]
      rw [rRow_get n (cnt + 1) _ hi (by omega)]
      simp [hs]
    · have hne : ¬ i = cnt := fun e => hk e.symm
      by_cases hlt : i < cnt
      · rw [rRow_get n (cnt + 1) _ hi (by omega)]
        simp [hk, hne, rRow_get n cnt B hi hlt]
      · rw [rRow_get0 n (cnt + 1) _ hi (by omega)]
        simp [hk, rRow_get0 n cnt B hi hlt]
  · have h1 : (rRow n (cnt + 1) fun r => if r = cnt then N else B r)[i]? = none := by simp [rRow]; omega
    rw [h1]
    simp [rRow]; omega
theorem made_bRow (n : Nat) : madeCells #[Value.bool false] n = bRow n fun _ => false := by
  apply Array.ext'
  rw [toList_madeCells_one]
  apply List.ext_getElem?
  intro i
  by_cases hi : i < n <;> simp [bRow, hi]
theorem made_rRow (n : Nat) (B : Nat → Nat) : madeCells #[Value.slice none 0 0] n = rRow n 0 B := by
  apply Array.ext'
  rw [toList_madeCells_one]
  apply List.ext_getElem?
  intro i
  by_cases hi : i < n <;> simp [rRow, hi]

/-- The rows of 'ahead' in memory: n rows of which j are made. -/
structure AhS (w0 wr : World) (n j : Nat) (B : Nat → Nat) (M : Nat → Nat → Bool) : Prop where
  top : Has wr w0.heap.size (rRow n j B) 126
  rows : ∀ r, r < j → Has wr (B r) (bRow n (M r)) 4
  far : ∀ r, r < j → w0.heap.size < B r
  sep : ∀ r r', r < j → r' < j → r ≠ r' → B r ≠ B r'
  below : Below w0.heap.size w0 wr
section
variable {w0 wr w' : World} {n j : Nat} {B : Nat → Nat} {M M' : Nat → Nat → Bool}
theorem AhS.next (h : AhS w0 wr n j B M) (k : Below wr.heap.size wr w') : AhS w0 w' n j B M :=
  ⟨h.top.below k h.top.lt, fun r hr => (h.rows r hr).below k (h.rows r hr).lt, h.far, h.sep, h.below.trans (k.mono h.below.size)⟩
theorem AhS.congr (h : AhS w0 wr n j B M) (e : ∀ r k, r < j → k < n → M r k = M' r k) : AhS w0 wr n j B M' :=
  ⟨h.top, fun r hr => (h.rows r hr).to (by
    unfold bRow
    congr 1
    exact List.map_congr_left fun k hk => by rw [e r k hr (by simpa using hk)]), h.far, h.sep, h.below⟩
theorem AhS.set (h : AhS w0 wr n j B M) {r : Nat} (hr : r < j) (k : Nat) (x : Bool) : AhS w0 (wr.setCell ⟨B r, k, none⟩ (.bool x)) n j B (updM M r k x) := by
  refine ⟨h.top.setCell_ne (by have := h.far r hr; simp; omega) _, fun a ha => ?_, h.far, h.sep, h.below.setCell (by have := h.far r hr; simp; omega) _⟩
  by_cases e : a = r
  · subst e
    refine ((h.rows a ha).setCell k (.bool x)).to ((bRow_set n _ k x).trans ?_)
    congr 1
    funext i
    simp [updM]
  · refine ((h.rows a ha).setCell_ne (a := ⟨B r, k, none⟩) (h.sep a r ha hr e) _).to ?_
    congr 1
    funext i
    simp [updM, e]
theorem AhS.push (h : AhS w0 wr n j B M) (hj : j < n) : AhS w0 ((wr.alloc (.cells (bRow n fun _ => false) 4)).setCell ⟨w0.heap.size, j, none⟩ (.slice (some ⟨wr.heap.size, 0, none⟩) n n)) n (j + 1) (fun r => if r = j then wr.heap.size else B r) (fun r k => if r = j then false else M r k) := by
  have hsz := h.below.size
  have hlt := h.top.lt
  refine ⟨((h.top.alloc _).setCell j _).to (rRow_set n j B _ hj), fun r hr => ?_, fun r hr => ?_, fun r r' hr hr' hne => ?_, (h.below.alloc hsz _).setCell (Nat.le_refl _) _⟩
  · by_cases e : r = j
    · subst e
      simp only [if_true]
      exact (Has.new wr _ _).setCell_ne (by simp; omega) _
    · simp only [if_neg e]
      exact ((h.rows r (by omega)).alloc _).setCell_ne (by have := h.far r (by omega); simp; omega) _
  · by_cases e : r = j
    · simp only [if_pos e]; exact hlt
    · simp only [if_neg e]; exact h.far r (by omega)
  · by_cases e : r = j
    · have e' : ¬ r' = j := fun x => hne (e.trans x.symm)
      simp only [if_pos e, if_neg e']
      have := (h.rows r' (by omega)).lt
      omega
    · by_cases e' : r' = j
      · simp only [if_neg e, if_pos e']
        have := (h.rows r (by omega)).lt
        omega
      · simp only [if_neg e, if_neg e']
        exact h.sep r r' (by omega) (by omega) hne
end
end Go.Proofs.YtfjbnhacfficnaaGreatDoor

/- Contracts of package order: ahead. -/
namespace Go.Proofs.YtfjbnhacfficnaaGreatDoor
open Go.RowKit

theorem infoRow : (Tryz.prog.info? 126).map (fun i => (i.zero, i.size, i.bytes)) = some (some (.slice none 0 0), 1, 24) := by kernel_rfl
theorem infoBit : (Tryz.prog.info? 4).map (fun i => (i.zero, i.size, i.bytes)) = some (some (.bool false), 1, 1) := by kernel_rfl
theorem make_rows (n : Nat) (hn : n ≤ 80) (W : World) : (Instr.makeSlice 128 (.int .i64 (n : Int)) (.int .i64 (n : Int))).run Tryz.prog W = .ok (.slice (some ⟨W.heap.size, 0, none⟩) n n) (W.alloc (.cells (rRow n 0 fun _ => 0) 126)) := by
  rw [← made_rRow]
  exact run_make_row' _ _ _ 24 Tryz.underlying128 infoRow rfl .i64 .i64 n (by omega) (by omega) W
theorem make_bits (n : Nat) (hn : n ≤ 80) (W : World) : (Instr.makeSlice 126 (.int .i64 (n : Int)) (.int .i64 (n : Int))).run Tryz.prog W = .ok (.slice (some ⟨W.heap.size, 0, none⟩) n n) (W.alloc (.cells (bRow n fun _ => false) 4)) := by
  rw [← made_bRow]
  exact run_make_row' _ _ _ 1 Tryz.underlying126 infoBit rfl .i64 .i64 n (by omega) (by omega) W
theorem rowsTo_lt (l : List Ev) : ∀ (j r k : Nat), r < j → rowsTo l j r k = rowsTo l (r + 1) r k
  | 0, r, k, h => by omega
  | j + 1, r, k, h => by
    by_cases e : r = j
    · subst e; rfl
    · have : rowsTo l (j + 1) r k = rowsTo l j r k := by simp [rowsTo, e]
      rw [this]
      exact rowsTo_lt l j r k (by omega)
def AhPost (l : List Ev) (w : World) (r : Ending) (w' : World) : Prop := ∃ B, r = .returned (.slice (some ⟨w.heap.size, 0, none⟩) l.length l.length) ∧ AhS w w' l.length l.length B (rowsTo l l.length)
/-- The middle loop's state: row j under way. -/
def MidM (l : List Ev) (j : Nat) (cur : Nat → Bool) : Nat → Nat → Bool := fun r k => if r = j then cur k else rowsTo l j r k

set_option maxRecDepth 100000 in
set_option maxHeartbeats 8000000 in
theorem ahead_any (l : List Ev) (a : Option Addr) (c : Nat) (w : World) (h : EvS w a l) (hl : l.length ≤ 80) :
    Calls Tryz.prog 65 #[.slice a l.length c] w (AhPost l w) := by
  have hm1 := make_rows l.length hl
  have hm2 := make_bits l.length hl
  go_enter Tryz.func65, Tryz.ntmps65
  go_wp2
  have hA : AhS w (w.alloc (.cells (rRow l.length 0 fun _ => 0) 126)) l.length 0 (fun _ => 0) (rowsTo l 0) :=
    ⟨Has.new w _ _, fun r hr => by omega, fun r hr => by omega, fun r r' hr => by omega, (Below.refl _ _).alloc (Nat.le_refl _) _⟩
  go_loopw [14] (fun i wr => ∃ (j : Nat) (B : Nat → Nat), j ≤ l.length ∧ i = .int .i64 j ∧ AhS w wr l.length j B (rowsTo l j)) (fun i _ => l.length - (intOf i).toNat)
  case atStart => exact ⟨0, _, Nat.zero_le _, rfl, hA⟩
  case round =>
    clear hA
    obtain ⟨j, B, hj, rfl, hA⟩ := hrel
    by_cases hlt : j < l.length
    · obtain ⟨b, o, rfl, d0, d1, d2⟩ := (h.below hA.below).at hlt
      have hx : evAt l j = l[j] := by simp [evAt, hlt]
      generalize l[j] = x at *
      have HX := Lib.hid hx
      clear hx
      have hAx := hA.next ((Below.refl _ wr).alloc (Nat.le_refl _) (.cells (evC x) 55))
      have hP := hAx.push hlt
      have hbx := (Has.new wr (evC x) 55)
      have tc := hAx.top.cell (rRow_get0 l.length j B hlt (by omega))
      have tf := hAx.top.free j
      have tl := hAx.top.lt
      have hsz : w.heap.size < wr.heap.size := hA.top.lt
      have i0 : (0 : Int) ≤ j := by omega
      have i1 : (j : Int) < l.length := by omega
      go_wp2
      have hP' : AhS w _ l.length (j + 1) _ (MidM l j fun _ => false) := hP.congr (M' := MidM l j fun _ => false) fun r k hr hk => by simp only [MidM]
      have hb' := ((hbx.alloc (.cells (bRow l.length fun _ => false) 4)).setCell_ne (a := ⟨w.heap.size, j, none⟩) (show wr.heap.size ≠ w.heap.size by omega) (.slice (some ⟨(wr.alloc (.cells (evC x) 55)).heap.size, 0, none⟩) l.length l.length))
      rw [World.size_alloc, World.setCell_alloc_past _ _ _ _ (by simp; omega), World.setCell_alloc_past _ _ _ _ hsz] at hP' hb'
      have hne : wr.heap.size < wr.heap.size + 1 := by omega
      clear hP hAx hbx tc tf tl d0 d1 d2 hA
      obtain ⟨wo, rfl⟩ : ∃ wo : World, wo = wr := ⟨_, rfl⟩
      generalize hB' : (fun r => if r = j then wo.heap.size + 1 else B r) = B' at hP'
      generalize hW : ((wo.setCell ⟨w.heap.size, j, none⟩ (.slice (some ⟨wo.heap.size + 1, 0, none⟩) l.length l.length)).alloc (.cells (evC x) 55)).alloc (.cells (bRow l.length fun _ => false) 4) = W0 at *
      clear hW hB'
      go_loopw [6] (fun i w2 => ∃ (m : Nat) (cur : Nat → Bool), m ≤ j ∧ i = .int .i64 ((m : Int) - 1) ∧ Hid (rowDn l (rowsTo l j) x m cur = rowDn l (rowsTo l j) x j (fun _ => false)) ∧ AhS w w2 l.length (j + 1) B' (MidM l j cur) ∧ Has w2 wo.heap.size (evC x) 55) (fun i _ => (intOf i + 1).toNat)
      case atStart => exact ⟨j, fun _ => false, Nat.le_refl _, rfl, Lib.hid rfl, hP', hb'⟩
      case round =>
        clear hP' hb'
        obtain ⟨m, cur, hm, rfl, HR, hA, hbx⟩ := hrel
        cases m with
        | zero =>
          have hF := hA.congr (M' := rowsTo l (j + 1)) (by
            intro r k hr hk
            have e1 : cur = rowDn l (rowsTo l j) x j (fun _ => false) := HR.out
            simp only [MidM, rowsTo, HX.out, ← e1])
          clear hA HR
          go_wp2
          go_roundw
          case rel => exact ⟨j + 1, B', by omega, by go_num, hF⟩
          case measure => (simp [intOf]; try omega)
        | succ q =>
          have hql : q < l.length := by omega
          have hqj : q < j := by omega
          have hjn : j < l.length := hlt
          have tc := hA.top.cell (rRow_get l.length (j + 1) B' hjn (by omega))
          have rc := (hA.rows j (by omega)).cell (bRow_get l.length (MidM l j cur j) hql)
          rw [show MidM l j cur j q = cur q by simp [MidM]] at rc
          obtain ⟨b2, o2, hbo, e0, e1, e2⟩ := (h.below hA.below).at hql
          cases hbo
          have hy : evAt l q = l[q] := by simp [evAt, hql]
          generalize l[q] = y at *
          have HY := Lib.hid hy
          clear hy
          have x0 : wr.cell? ⟨wo.heap.size, 0, none⟩ = some (.int .i64 x.k) := hbx.cell rfl
          have x1 : wr.cell? ⟨wo.heap.size, 1, none⟩ = some (.int .i64 x.t) := hbx.cell rfl
          have x2 : wr.cell? ⟨wo.heap.size, 2, none⟩ = some (.int .i64 x.o) := hbx.cell rfl
          have q0 : (0 : Int) ≤ q := by omega
          have q1 : (q : Int) < l.length := by omega
          have eq1 : (((q + 1 : Nat) : Int) - 1) = (q : Int) := by omega
          rw [eq1]
          clear eq1
          cases hcur : cur q
          · rw [hcur] at rc
            have hsl := hA.below.size
            go_wp2_with fail
            have g := hA.next (below_drewN (Below.refl _ _) 1)
            have gx := hbx.drewN 1
            have ye0 : wr.cell? ⟨b, o + q * 3, none⟩ = some (.int .i64 y.k) := e0
            have ye1 : wr.cell? ⟨b, o + q * 3 + 1, none⟩ = some (.int .i64 y.t) := e1
            have ye2 : wr.cell? ⟨b, o + q * 3 + 2, none⟩ = some (.int .i64 y.o) := e2
            go_region_held3 (fun W => (AhS w W l.length (j + 1) B' (MidM l j cur) ∧ Has W wo.heap.size (evC x) 55 ∧ Below wr.heap.size wr W) ∧ W.cell? ⟨w.heap.size, j, none⟩ = some (.slice (some ⟨B' j, 0, none⟩) l.length l.length) ∧ W.cell? ⟨B' j, q, none⟩ = some (.bool false) ∧ W.cell? ⟨b, o + q * 3, none⟩ = some (.int .i64 y.k) ∧ W.cell? ⟨b, o + q * 3 + 1, none⟩ = some (.int .i64 y.t) ∧ W.cell? ⟨b, o + q * 3 + 2, none⟩ = some (.int .i64 y.o) ∧ W.cell? ⟨wo.heap.size, 0, none⟩ = some (.int .i64 x.k) ∧ W.cell? ⟨wo.heap.size, 1, none⟩ = some (.int .i64 x.t) ∧ W.cell? ⟨wo.heap.size, 2, none⟩ = some (.int .i64 x.o))
              (first | exact ⟨⟨g, gx, below_drewN (Below.refl _ _) 1⟩, tc, rc, ye0, ye1, ye2, x0, x1, x2⟩ | exact ⟨⟨hA.next hB5, hbx.below hB5 hbx.lt, hB5⟩, (hB5.cell (World.block_lt_of_cell? wr _ tc)).trans tc, (hB5.cell (World.block_lt_of_cell? wr _ rc)).trans rc, (hB5.cell (World.block_lt_of_cell? wr _ ye0)).trans ye0, (hB5.cell (World.block_lt_of_cell? wr _ ye1)).trans ye1, (hB5.cell (World.block_lt_of_cell? wr _ ye2)).trans ye2, (hB5.cell (World.block_lt_of_cell? wr _ x0)).trans x0, (hB5.cell (World.block_lt_of_cell? wr _ x1)).trans x1, (hB5.cell (World.block_lt_of_cell? wr _ x2)).trans x2⟩)
              (first | (go_at_call 97; refine (directly_any y x _).mono ?_; rintro r w5 ⟨rfl, hq5⟩; have hB5 := (Below.refl wr.heap.size wr).drew.trans hq5))
            rename_i hS
            obtain ⟨⟨hA5, hx5, hB⟩, tc5, rc5, _, _, _, _, _, _⟩ := hS
            clear g gx ye0 ye1 ye2 x0 x1 x2 e0 e1 e2 tc rc hq5 hB5 hB hA hbx hsl
            cases hd : dirE y x
            · have HN : Hid (rowDn l (rowsTo l j) x q cur = rowDn l (rowsTo l j) x j (fun _ => false)) := Lib.hid (by rw [← HR.out]; simp [rowDn, HY.out, hd])
              clear HR hcur hd rc5 tc5
              go_wp2
              go_roundw
              case rel => exact ⟨q, cur, by omega, rfl, HN, hA5, hx5⟩
              case measure => (simp [intOf]; try omega)
            · have HN : Hid (rowDn l (rowsTo l j) x q (fun k => (if k = q then true else cur k) || rowsTo l j q k) = rowDn l (rowsTo l j) x j (fun _ => false)) := Lib.hid (by rw [← HR.out]; simp [rowDn, HY.out, hd, hcur])
              clear HR hcur hd
              have rf5 := (hA5.rows j (by omega)).free q
              have tq5 := hA5.top.cell (rRow_get l.length (j + 1) B' hql (by omega))
              have hfar := hA5.far j (by omega)
              have hs5 := (hA5.set (show j < j + 1 by omega) q true).congr (M' := MidM l j fun k => if k = q then true else cur k) (by
                intro r k hr hk
                simp only [updM, MidM]
                by_cases e1 : r = j <;> by_cases e2 : k = q <;> simp [e1, e2])
              have hsx := hx5.setCell_ne (a := ⟨B' j, q, none⟩) (hx5.ne_ty (hA5.rows j (by omega)) (by decide)) (.bool true)
              have ts := hs5.top.cell (rRow_get l.length (j + 1) B' hjn (by omega))
              have ts2 := hs5.top.cell (rRow_get l.length (j + 1) B' hql (by omega))
              go_wp2
              clear ts ts2 tc5 tq5 rc5 rf5 hA5 hx5
              generalize hcur1 : (fun k => if k = q then true else cur k) = cur1 at hs5
              have HC1 := Lib.hid hcur1
              clear hcur1
              obtain ⟨wm, rfl⟩ : ∃ wm : World, wm = wr := ⟨_, rfl⟩
              go_loopw [58] (fun i wr => ∃ k : Nat, k ≤ l.length ∧ i = .int .i64 k ∧ AhS w wr l.length (j + 1) B' (MidM l j fun z => if z < k then cur1 z || rowsTo l j q z else cur1 z) ∧ Has wr wo.heap.size (evC x) 55) (fun i _ => l.length - (intOf i).toNat)
              case atStart => exact ⟨0, Nat.zero_le _, rfl, by simpa using hs5, hsx⟩
              case round =>
                clear hs5 hsx
                obtain ⟨k, hk, rfl, hA, hbx⟩ := hrel
                by_cases hkl : k < l.length
                · have tc := hA.top.cell (rRow_get l.length (j + 1) B' hjn (by omega))
                  have rc := (hA.rows j (by omega)).cell (bRow_get l.length (MidM l j (fun z => if z < k then cur1 z || rowsTo l j q z else cur1 z) j) hkl)
                  have rf := (hA.rows j (by omega)).free k
                  have qc := (hA.rows q (by omega)).cell (bRow_get l.length (MidM l j (fun z => if z < k then cur1 z || rowsTo l j q z else cur1 z) q) hkl)
                  rw [show MidM l j (fun z => if z < k then cur1 z || rowsTo l j q z else cur1 z) j k = cur1 k by simp [MidM]] at rc
                  rw [show MidM l j (fun z => if z < k then cur1 z || rowsTo l j q z else cur1 z) q k = rowsTo l j q k by simp [MidM]; intro e; omega] at qc
                  have k0 : (0 : Int) ≤ k := by omega
                  have k1 : (k : Int) < l.length := by omega
                  have hs := hA.set (show j < j + 1 by omega) k (cur1 k || rowsTo l j q k)
                  have hs' := hs.congr (M' := MidM l j fun z => if z < k + 1 then cur1 z || rowsTo l j q z else cur1 z) (by
                    intro r z hr hz
                    simp only [updM, MidM]
                    by_cases e1 : r = j <;> by_cases e2 : z = k
                    · subst e1 e2; simp
                    · have e3 : z < k + 1 ↔ z < k := by omega
                      simp [e1, e2, e3]
                    · simp [e1]
                    · simp [e1])
                  have hbx' := hbx.setCell_ne (a := ⟨B' j, k, none⟩) (hbx.ne_ty (hA.rows j (by omega)) (by decide)) (.bool (cur1 k || rowsTo l j q k))
                  generalize hIs : rowsTo l j q k = is at *
                  generalize hCu : cur1 k = cu at *
                  clear hIs hCu hs
                  cases cu
                  all_goals
                    go_wp2
                    go_still_tail 16, (by kernel_rfl)
                    change wpList _ _ _ _ _ wr.drew
                    go_wp2
                    go_roundw
                    case rel => exact ⟨k + 1, by omega, by go_num, hs'.next (Below.refl _ _).drew, hbx'.drew⟩
                    case measure => (simp [intOf]; try omega)
                · obtain rfl : k = l.length := by omega
                  have hF := hA.congr (M' := MidM l j fun k => (if k = q then true else cur k) || rowsTo l j q k) (by
                    intro r z hr hz
                    have := HC1.out
                    subst this
                    simp only [MidM, if_pos hz])
                  clear hA
                  go_wp2
                  go_roundw
                  case rel => exact ⟨q, _, by omega, rfl, HN, hF, hbx⟩
                  case measure => (simp [intOf]; try omega)
          · rw [hcur] at rc
            have HN : Hid (rowDn l (rowsTo l j) x q cur = rowDn l (rowsTo l j) x j (fun _ => false)) := Lib.hid (by rw [← HR.out]; simp [rowDn, hcur])
            clear HR hcur
            go_wp2
            go_quiet (fail)
            go_wp2
            go_roundw
            case rel => exact ⟨q, cur, by omega, rfl, HN, hA.next (below_drewN (Below.refl _ _) _), hbx.drewN _⟩
            case measure => (simp [intOf]; try omega)
    · obtain rfl : j = l.length := by omega
      go_wp2
      go_ret
      exact ⟨B, rfl, hA⟩
end Go.Proofs.YtfjbnhacfficnaaGreatDoor

/- Contracts of package order: pairs. -/
namespace Go.Proofs.YtfjbnhacfficnaaGreatDoor
open Go.RowKit

theorem infoP : (Tryz.prog.info? 111).map (fun i => (i.zero, i.size, i.bytes)) = some (some (prV (0, 0)), 2, 16) := by kernel_rfl
def PrsPost (L : List (Int × Int)) (w : World) (r : Ending) (w' : World) : Prop := ∃ v, r = .returned v ∧ w'.ownsRow w.heap.size 111 2 v L.length (prL L) ∧ Below w.heap.size w w'

set_option maxHeartbeats 4000000 in
theorem pairs_before (x : Value) (H : Nat → Nat → Bool) (l : List Ev) (a : Option Addr) (c : Nat) (w : World) (hl : l.length ≤ 80)
    (HF : ∀ (i j : Nat) (W : World), Below w.heap.size w W → i < j → j < l.length → Calls Tryz.prog 89 #[.int .i64 i, .int .i64 j, x] W fun r W' => r = .returned (.bool (H i j)) ∧ Below W.heap.size W W') :
    Calls Tryz.prog 88 #[.slice a l.length c, .func (.func 89) #[] #[x]] w (PrsPost (allP H l.length l.length) w) := by
  obtain ⟨i0, hi, hz0, hz1, hz2⟩ := info_parts infoP
  have HFF := Lib.hid HF
  clear HF
  go_enter Tryz.func88, Tryz.ntmps88
  go_wp2
  go_loopw [5, 10] (fun v i wr => ∃ k : Nat, k ≤ l.length ∧ i = .int .i64 k ∧ wr.ownsRow w.heap.size 111 2 v (allP H l.length k).length (prL (allP H l.length k)) ∧ Below w.heap.size w wr) (fun _ i _ => l.length - (intOf i).toNat)
  case atStart => exact ⟨0, Nat.zero_le _, rfl, World.ownsRow_nil _ _ _ _, Below.refl _ _⟩
  case round =>
    obtain ⟨k, hk, rfl, hown, hb⟩ := hrel
    obtain ⟨wo, rfl⟩ : ∃ wo : World, wo = wr := ⟨_, rfl⟩
    by_cases hlt : k < l.length
    · go_wp2
      go_loopw [5, 7] (fun v j wr => ∃ m : Nat, k < m ∧ m ≤ l.length ∧ j = .int .i64 m ∧ wr.ownsRow w.heap.size 111 2 v (allP H l.length k ++ rowP H k m).length (prL (allP H l.length k ++ rowP H k m)) ∧ Below w.heap.size w wr) (fun _ j _ => l.length - (intOf j).toNat)
      case atStart => exact ⟨k + 1, by omega, by omega, by go_num, by rw [rowP_start, List.append_nil]; exact hown, hb⟩
      case round =>
        clear hown hb
        obtain ⟨m, hkm, hm, rfl, hown, hb⟩ := hrel
        by_cases hml : m < l.length
        · have hlen : (allP H l.length k ++ rowP H k m).length ≤ 6480 := by
            rw [List.length_append]
            have h1 := allP_len H l.length k
            have h2 := rowP_len H k m
            have h3 : k * l.length ≤ 80 * 80 := Nat.mul_le_mul (by omega) hl
            omega
          cases hH : H k m
          · have hr := rowP_no H k m hH
            have HR := Lib.hid hr
            clear hr
            go_wp2_with fail
            refine (HFF.out k m _ hb hkm hml).mono ?_
            rintro r w3 ⟨rfl, hq⟩
            rw [hH]
            have ho := own_below hown hq
            have hb3 := hb.trans (hq.mono hb.size)
            clear hown hb hq hH
            go_wp2
            go_roundw
            case rel => exact ⟨m + 1, by omega, by omega, by go_num, by rw [HR.out]; exact ho, hb3⟩
            case measure => (simp [intOf]; try omega)
          · have hr := rowP_yes H k m hkm hH
            have HR := Lib.hid hr
            clear hr
            go_wp2_with fail
            refine (HFF.out k m _ hb hkm hml).mono ?_
            rintro r w3 ⟨rfl, hq⟩
            rw [hH]
            have ho := own_below hown hq
            have hb3 := hb.trans (hq.mono hb.size)
            have hs3 := hb3.size
            clear hown hb hq hH
            have hN := Has.new w3 (prC ((k : Int), (m : Int))) 111
            have hb4 := hb3.alloc hs3 (.cells (prC ((k : Int), (m : Int))) 111)
            go_wp2_with (at_builtin; refine app_list _ rfl (.tmp 25) (.tmp 29) 88 rfl Tryz.underlying88 hi hz0 hz1 hz2 rfl (by decide) rfl (ho.alloc _) rfl (news := prL [((k : Int), (m : Int))]) ⟨rfl, .inr ⟨_, rfl, fun j u hu => hN.cell_add (by simpa [prL] using hu)⟩⟩ (prL_one _) ?c3 ?c4 ?c5 ?_)
            case c3 => unfold maxLen; omega
            case c4 => omega
            case c5 => simp; omega
            intro v' w4 hA
            have hb5 := hA.below (ho.alloc _) hb4 (by simp; omega)
            have ho5 : w4.ownsRow w.heap.size 111 2 v' (allP H l.length k ++ rowP H k (m + 1)).length (prL (allP H l.length k ++ rowP H k (m + 1))) := by
              have := hA.own
              rw [HR.out, ← List.append_assoc, prL_append _ [((k : Int), (m : Int))], List.length_append, List.length_append]
              exact this
            clear hA ho hN hb4 hb3 hs3
            go_wp2
            go_roundw
            case rel => exact ⟨m + 1, by omega, by omega, by go_num, ho5, hb5⟩
            case measure => (simp [intOf]; try omega)
        · obtain rfl : m = l.length := by omega
          have ha := allP_succ H l.length k
          have HA := Lib.hid ha
          clear ha
          go_wp2
          go_roundw
          case rel => exact ⟨k + 1, by omega, by go_num, by rw [HA.out]; exact hown, hb⟩
          case measure => (simp [intOf]; try omega)
    · obtain rfl : k = l.length := by omega
      go_wp2
      go_ret
      exact ⟨_, rfl, hown, hb⟩
end Go.Proofs.YtfjbnhacfficnaaGreatDoor

/- Contracts of package order: Before. -/
namespace Go.Proofs.YtfjbnhacfficnaaGreatDoor
open Go.RowKit

theorem own_low {w : World} {b0 b1 e size n : Nat} {v : Value} {cs : List Value} (h : w.ownsRow b1 e size v n cs) (hb : b0 ≤ b1) : w.ownsRow b0 e size v n cs := by
  obtain ⟨h1, h2 | ⟨g, cap, cur, h2, h3, h4⟩⟩ := h
  · exact ⟨h1, .inl h2⟩
  · exact ⟨h1, .inr ⟨g, cap, cur, h2, Nat.le_trans hb h3, h4⟩⟩
theorem before1_any (i j b g n : Nat) (B : Nat → Nat) (M : Nat → Nat → Bool) (w : World) (hb : Has w b #[.slice (some ⟨g, 0, none⟩) n n] 128)
    (hg : Has w g (rRow n n B) 126) (hr : Has w (B j) (bRow n (M j)) 4) (hi : i < n) (hj : j < n) :
    Calls Tryz.prog 89 #[.int .i64 i, .int .i64 j, .pointer (some ⟨b, 0, none⟩)] w fun r w' => r = .returned (.bool (M j i)) ∧ Below w.heap.size w w' := by
  have c0 : w.cell? ⟨b, 0, none⟩ = some (.slice (some ⟨g, 0, none⟩) n n) := hb.cell rfl
  have c1 := hg.cell (rRow_get n n B hj hj)
  have c2 := hr.cell (bRow_get n (M j) hi)
  go_enter Tryz.func89, Tryz.ntmps89
  go_wp2
  go_ret
  exact ⟨rfl, Below.refl _ _⟩

theorem before_err (l : List Ev) (a : Option Addr) (c : Nat) (w : World) (h : EvS w a l) (he : (played l).2.2 ≠ 0) :
    Calls Tryz.prog 59 #[.slice a l.length c] w fun r w' => r = .returned (.tuple #[.slice none 0 0, .int .i64 (played l).2.2]) ∧ Below w.heap.size w w' := by
  have e2 : ((played l).2.2 != 0) = true := by simpa using he
  go_enter Tryz.func59, Tryz.ntmps59
  go_wp2_with fail
  refine (check_any l a c _ h).mono ?_
  rintro r w1 ⟨rfl, hb⟩
  go_wp2
  go_ret2
  exact ⟨rfl, hb⟩

/-- Who is ahead: the answer of Before. -/
def befM (l : List Ev) (i j : Nat) : Bool := rowsTo l l.length j i
def befL (l : List Ev) : List (Int × Int) := allP (befM l) l.length l.length
def BefPost (L : List (Int × Int)) (w : World) (r : Ending) (w' : World) : Prop := ∃ v, r = .returned (.tuple #[v, .int .i64 0]) ∧ w'.ownsRow w.heap.size 111 2 v L.length (prL L) ∧ Below w.heap.size w w'
theorem before_ok (l : List Ev) (a : Option Addr) (c : Nat) (w : World) (h : EvS w a l) (he : (played l).2.2 = 0) :
    Calls Tryz.prog 59 #[.slice a l.length c] w (BefPost (befL l) w) := by
  obtain ⟨hl80, _⟩ := played_evs he
  have HE := Lib.hid he
  clear he
  go_enter Tryz.func59, Tryz.ntmps59
  go_wp2_with fail
  refine (check_any l a c _ h).mono ?_
  rintro r w1 ⟨rfl, hb⟩
  rw [HE.out]
  replace h := h.below hb
  go_wp2_with fail
  refine (ahead_any l a c _ h hl80).mono ?_
  rintro r w2 ⟨B, rfl, hA⟩
  have hN := Has.new w2 #[.slice (some ⟨w1.heap.size, 0, none⟩) l.length l.length] 128
  have hA2 := hA.next ((Below.refl _ w2).alloc (Nat.le_refl _) (.cells #[.slice (some ⟨w1.heap.size, 0, none⟩) l.length l.length] 128))
  have hb2 := hb.trans (hA2.below.mono hb.size)
  clear h hA
  go_wp2_with fail
  refine (pairs_before (.pointer (some ⟨w2.heap.size, 0, none⟩)) (befM l) l a c _ hl80 ?_).mono ?_
  · intro i j W hW hij hj
    have hA3 := hA2.next hW
    exact before1_any i j w2.heap.size w1.heap.size l.length B (rowsTo l l.length) W (hN.below hW hN.lt) hA3.top (hA3.rows j hj) (by omega) hj
  rintro r w3 ⟨v, rfl, hown, hq⟩
  have hb3 := hb2.trans (hq.mono hb2.size)
  go_wp2
  go_ret2
  exact ⟨v, rfl, own_low hown hb2.size, hb3⟩
end Go.Proofs.YtfjbnhacfficnaaGreatDoor

/- What the rows of 'ahead' are: the transitive closure of 'directly'. No program. -/
namespace Go.Proofs.YtfjbnhacfficnaaGreatDoor

/-- Is event k ahead of event j? -/
def R (l : List Ev) (j k : Nat) : Bool := rowsTo l (j + 1) j k
abbrev Spec (l : List Ev) (a : Nat) : Prop := ∀ k, R l a k = true ↔ ∃ i, i < a ∧ dirE (evAt l i) (evAt l a) = true ∧ (k = i ∨ R l i k = true)
theorem rowDn_iff (l : List Ev) (prev : Nat → Nat → Bool) (b : Ev) (ht : ∀ i k x, prev i k = true → prev k x = true → prev i x = true) :
    ∀ (m : Nat) (cur : Nat → Bool), (∀ i k, cur i = true → prev i k = true → cur k = true) → ∀ k, (rowDn l prev b m cur k = true ↔ cur k = true ∨ ∃ i, i < m ∧ dirE (evAt l i) b = true ∧ (k = i ∨ prev i k = true)) := by
  intro m
  induction m with
  | zero => intro cur _ k; simp [rowDn]
  | succ m ih =>
    intro cur hc k
    by_cases h : cur m = false ∧ dirE (evAt l m) b = true
    · rw [rowDn, if_pos h, ih _ (by
        intro i k hi hp
        simp only [Bool.or_eq_true] at hi ⊢
        rcases hi with hi | hi
        · by_cases e : i = m
          · subst e; exact .inr hp
          · rw [if_neg e] at hi
            by_cases e2 : k = m
            · exact .inl (by rw [if_pos e2])
            · exact .inl (by rw [if_neg e2]; exact hc i k hi hp)
        · exact .inr (ht m i k hi hp)) k]
      simp only [Bool.or_eq_true]
      constructor
      · rintro ((h1 | h1) | ⟨i, h1, h2, h3⟩)
        · by_cases e : k = m
          · exact .inr ⟨m, by omega, h.2, .inl e⟩
          · rw [if_neg e] at h1; exact .inl h1
        · exact .inr ⟨m, by omega, h.2, .inr h1⟩
        · exact .inr ⟨i, by omega, h2, h3⟩
      · rintro (h1 | ⟨i, h1, h2, h3⟩)
        · refine .inl (.inl ?_)
          by_cases e : k = m
          · rw [if_pos e]
          · rw [if_neg e]; exact h1
        · by_cases e : i = m
          · subst e
            rcases h3 with rfl | h3
            · exact .inl (.inl (by rw [if_pos rfl]))
            · exact .inl (.inr h3)
          · exact .inr ⟨i, by omega, h2, h3⟩
    · rw [rowDn, if_neg h, ih _ hc k]
      constructor
      · rintro (h1 | ⟨i, h1, h2, h3⟩)
        · exact .inl h1
        · exact .inr ⟨i, by omega, h2, h3⟩
      · rintro (h1 | ⟨i, h1, h2, h3⟩)
        · exact .inl h1
        · by_cases e : i = m
          · subst e
            have hcm : cur i = true := by
              cases hh : cur i
              · exact absurd ⟨hh, h2⟩ h
              · rfl
            rcases h3 with rfl | h3
            · exact .inl hcm
            · exact .inl (hc i k hcm h3)
          · exact .inr ⟨i, by omega, h2, h3⟩
theorem rowsTo_out (l : List Ev) : ∀ (j r k : Nat), j ≤ r → rowsTo l j r k = false
  | 0, _, _, _ => rfl
  | j + 1, r, k, h => by
    have e : r ≠ j := by omega
    simp only [rowsTo, if_neg e]
    exact rowsTo_out l j r k (by omega)
theorem rowsTo_R (l : List Ev) (j r k : Nat) (h : r < j) : rowsTo l j r k = R l r k := rowsTo_lt l j r k h
theorem befM_R (l : List Ev) (i j : Nat) (h : j < l.length) : befM l i j = R l j i := rowsTo_R l _ j i h
theorem trans_of (l : List Ev) (j : Nat) (h : ∀ a, a < j → Spec l a) : ∀ a b c, a < j → R l a b = true → R l b c = true → R l a c = true := by
  intro a
  induction a using Nat.strongRecOn with
  | _ a ih =>
    intro b c ha h1 h2
    obtain ⟨i, hi, hd, h3⟩ := (h a ha b).1 h1
    refine (h a ha c).2 ⟨i, hi, hd, .inr ?_⟩
    rcases h3 with rfl | h3
    · exact h2
    · exact ih i hi b c (by omega) h3 h2
theorem spec_all (l : List Ev) : ∀ a, Spec l a := by
  have h : ∀ j a, a < j → Spec l a := by
    intro j
    induction j with
    | zero => intro a ha; omega
    | succ j ih =>
      intro a ha
      by_cases e : a < j
      · exact ih a e
      · obtain rfl : a = j := by omega
        intro k
        have ht := trans_of l a ih
        have hk := rowDn_iff l (rowsTo l a) (evAt l a) (by
          intro i k x h1 h2
          by_cases hi : i < a
          · rw [rowsTo_R l a i _ hi] at h1 ⊢
            by_cases hk : k < a
            · rw [rowsTo_R l a k _ hk] at h2
              exact ht i k x hi h1 h2
            · rw [rowsTo_out l a k _ (by omega)] at h2; cases h2
          · rw [rowsTo_out l a i _ (by omega)] at h1; cases h1) a (fun _ => false) (by intro i k h; cases h) k
        have e1 : R l a k = rowDn l (rowsTo l a) (evAt l a) a (fun _ => false) k := by simp only [R, rowsTo, if_true]
        rw [e1, hk]
        constructor
        · rintro (h | ⟨i, h1, h2, h3⟩)
          · cases h
          · exact ⟨i, h1, h2, by rw [← rowsTo_R l a i k h1]; exact h3⟩
        · rintro ⟨i, h1, h2, h3⟩
          exact .inr ⟨i, h1, h2, by rw [rowsTo_R l a i k h1]; exact h3⟩
  exact fun a => h (a + 1) a (by omega)
theorem R_trans {l : List Ev} {a b c : Nat} (h1 : R l a b = true) (h2 : R l b c = true) : R l a c = true :=
  trans_of l (a + 1) (fun a _ => spec_all l a) a b c (by omega) h1 h2
theorem R_lt {l : List Ev} : ∀ {a b : Nat}, R l a b = true → b < a := by
  intro a
  induction a using Nat.strongRecOn with
  | _ a ih =>
    intro b h
    obtain ⟨i, hi, _, rfl | h3⟩ := (spec_all l a b).1 h
    · exact hi
    · have := ih i hi h3; omega
theorem R_dir {l : List Ev} {a b : Nat} (h : b < a) (hd : dirE (evAt l b) (evAt l a) = true) : R l a b = true := (spec_all l a b).2 ⟨b, h, hd, .inl rfl⟩
/-- From the left: a direct step, and the rest. -/
theorem R_left {l : List Ev} : ∀ {a b : Nat}, R l a b = true → dirE (evAt l b) (evAt l a) = true ∨ ∃ k, b < k ∧ dirE (evAt l b) (evAt l k) = true ∧ R l a k = true := by
  intro a
  induction a using Nat.strongRecOn with
  | _ a ih =>
    intro b h
    obtain ⟨i, hi, hd, rfl | h3⟩ := (spec_all l a b).1 h
    · exact .inl hd
    · rcases ih i hi h3 with h4 | ⟨k, h4, h5, h6⟩
      · exact .inr ⟨i, R_lt h3, h4, R_dir hi hd⟩
      · exact .inr ⟨k, h4, h5, R_trans (R_dir hi hd) h6⟩
theorem evAt_take (l : List Ev) (n i : Nat) (h : i < n) : evAt (l.take n) i = evAt l i := by
  simp [evAt, h]
theorem R_take (l : List Ev) (n : Nat) : ∀ (a b : Nat), a < n → R (l.take n) a b = R l a b := by
  intro a
  induction a using Nat.strongRecOn with
  | _ a ih =>
    intro b ha
    apply Bool.eq_iff_iff.2
    rw [spec_all l a b, spec_all (l.take n) a b]
    constructor
    · rintro ⟨i, h1, h2, h3⟩
      rw [evAt_take l n i (by omega), evAt_take l n a ha] at h2
      rw [ih i h1 b (by omega)] at h3
      exact ⟨i, h1, h2, h3⟩
    · rintro ⟨i, h1, h2, h3⟩
      refine ⟨i, h1, ?_, ?_⟩
      · rw [evAt_take l n i (by omega), evAt_take l n a ha]; exact h2
      · rw [ih i h1 b (by omega)]; exact h3
theorem mem_befL {l : List Ev} {p : Int × Int} : p ∈ befL l ↔ ∃ i j : Nat, p = ((i : Int), (j : Int)) ∧ j < l.length ∧ R l j i = true := by
  rw [befL, mem_allP]
  constructor
  · rintro ⟨i, j, h1, h2, h3, h4⟩
    exact ⟨i, j, h1, h3, by rw [← befM_R l i j h3]; exact h4⟩
  · rintro ⟨i, j, h1, h3, h4⟩
    exact ⟨i, j, h1, R_lt h4, h3, by rw [befM_R l i j h3]; exact h4⟩
theorem mem_befL_nat {l : List Ev} {i j : Nat} : ((i : Int), (j : Int)) ∈ befL l ↔ j < l.length ∧ R l j i = true := by
  rw [mem_befL]
  constructor
  · rintro ⟨a, b, h1, h2, h3⟩
    simp only [Prod.mk.injEq] at h1
    obtain rfl : a = i := by omega
    obtain rfl : b = j := by omega
    exact ⟨h2, h3⟩
  · exact fun ⟨h1, h2⟩ => ⟨i, j, rfl, h1, h2⟩
end Go.Proofs.YtfjbnhacfficnaaGreatDoor

/- Contract of order.Leads. -/
namespace Go.Proofs.YtfjbnhacfficnaaGreatDoor
open Go.RowKit

theorem leads_ok (l : List Ev) (i j : Nat) (a : Option Addr) (c : Nat) (w : World) (h : EvS w a l) (he : (played l).2.2 = 0) (hi : i < l.length) (hj : j < l.length) :
    Calls Tryz.prog 43 #[.slice a l.length c, .int .i64 (i : Int), .int .i64 (j : Int)] w fun r w' => r = .returned (.tuple #[.bool (R l j i), .int .i64 0]) ∧ Below w.heap.size w w' := by
  obtain ⟨hl80, _⟩ := played_evs he
  have HE := Lib.hid he
  have i1 : decide ((i : Int) < 0) = false := by simp
  have i2 : decide ((i : Int) ≥ (l.length : Int)) = false := by simp; omega
  have i3 : decide ((l.length : Int) ≤ (i : Int)) = false := by simp; omega
  have j1 : decide ((j : Int) < 0) = false := by simp
  have j2 : decide ((j : Int) ≥ (l.length : Int)) = false := by simp; omega
  have j3 : decide ((l.length : Int) ≤ (j : Int)) = false := by simp; omega
  clear he
  go_enter Tryz.func43, Tryz.ntmps43
  go_wp2_with fail
  refine (check_any l a c _ h).mono ?_
  rintro r w1 ⟨rfl, hb⟩
  rw [HE.out]
  replace h := h.below hb
  go_wp2_with fail
  refine (ahead_any l a c _ h hl80).mono ?_
  rintro r w2 ⟨B, rfl, hA⟩
  have hb2 := hb.trans (hA.below.mono hb.size)
  have tc := hA.top.cell (rRow_get l.length l.length B hj hj)
  have rc := (hA.rows j hj).cell (bRow_get l.length (rowsTo l l.length j) hi)
  have e : rowsTo l l.length j i = R l j i := rowsTo_R l _ j i hj
  rw [e] at rc
  clear e hA
  go_wp2
  go_ret2
  exact ⟨rfl, hb2⟩
end Go.Proofs.YtfjbnhacfficnaaGreatDoor
