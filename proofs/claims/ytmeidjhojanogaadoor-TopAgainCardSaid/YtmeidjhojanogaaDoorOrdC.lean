/- Contracts of package order: ahead. -/
import Derived.Test.YtmeidjhojanogaaDoorMK
import Derived.Test.YtmeidjhojanogaaDoorMD
import Derived.Deep.RegionHeld3
import Derived.StillTailTactics
namespace Go.Proofs.YtmeidjhojanogaaDoor
open Go.RowKit

theorem infoRow : (Tryd.prog.info? 105).map (fun i => (i.zero, i.size, i.bytes)) = some (some (.slice none 0 0), 1, 24) := by kernel_rfl
theorem infoBit : (Tryd.prog.info? 4).map (fun i => (i.zero, i.size, i.bytes)) = some (some (.bool false), 1, 1) := by kernel_rfl
theorem make_rows (n : Nat) (hn : n ≤ 80) (W : World) : (Instr.makeSlice 102 (.int .i64 (n : Int)) (.int .i64 (n : Int))).run Tryd.prog W = .ok (.slice (some ⟨W.heap.size, 0, none⟩) n n) (W.alloc (.cells (rRow n 0 fun _ => 0) 105)) := by
  rw [← made_rRow]
  exact run_make_row' _ _ _ 24 Tryd.underlying102 infoRow rfl .i64 .i64 n (by omega) (by omega) W
theorem make_bits (n : Nat) (hn : n ≤ 80) (W : World) : (Instr.makeSlice 105 (.int .i64 (n : Int)) (.int .i64 (n : Int))).run Tryd.prog W = .ok (.slice (some ⟨W.heap.size, 0, none⟩) n n) (W.alloc (.cells (bRow n fun _ => false) 4)) := by
  rw [← made_bRow]
  exact run_make_row' _ _ _ 1 Tryd.underlying105 infoBit rfl .i64 .i64 n (by omega) (by omega) W
theorem rowsTo_lt (l : List Ev) : ∀ (j r k : Nat), r < j → rowsTo l j r k = rowsTo l (r + 1) r k
  | 0, r, k, h => by omega
  | j + 1, r, k, h => by
    by_cases e : r = j
    · subst e; rfl
    · have : rowsTo l (j + 1) r k = rowsTo l j r k := by simp [rowsTo, e]
      rw [this]
      exact rowsTo_lt l j r k (by omega)
def AhPost (l : List Ev) (w : World) (r : Ending) (w' : World) : Prop := ∃ B, r = .returned (.slice (some ⟨w.heap.size, 0, none⟩) l.length l.length) ∧ AhS w w' l.length l.length B (rowsTo l l.length)
/-- The middle loop's state: row j under way. -/
def MidM (l : List Ev) (j : Nat) (cur : Nat → Bool) : Nat → Nat → Bool := fun r k => if r = j then cur k else rowsTo l j r k

set_option maxRecDepth 100000 in
set_option maxHeartbeats 8000000 in
theorem ahead_any (l : List Ev) (a : Option Addr) (c : Nat) (w : World) (h : EvS w a l) (hl : l.length ≤ 80) :
    Calls Tryd.prog 49 #[.slice a l.length c] w (AhPost l w) := by
  have hm1 := make_rows l.length hl
  have hm2 := make_bits l.length hl
  go_enter Tryd.func49, Tryd.ntmps49
  go_wp2
  have hA : AhS w (w.alloc (.cells (rRow l.length 0 fun _ => 0) 105)) l.length 0 (fun _ => 0) (rowsTo l 0) :=
    ⟨Has.new w _ _, fun r hr => by omega, fun r hr => by omega, fun r r' hr => by omega, (Below.refl _ _).alloc (Nat.le_refl _) _⟩
  go_loopw [14] (fun i wr => ∃ (j : Nat) (B : Nat → Nat), j ≤ l.length ∧ i = .int .i64 j ∧ AhS w wr l.length j B (rowsTo l j)) (fun i _ => l.length - (intOf i).toNat)
  case atStart => exact ⟨0, _, Nat.zero_le _, rfl, hA⟩
  case round =>
    clear hA
    obtain ⟨j, B, hj, rfl, hA⟩ := hrel
    by_cases hlt : j < l.length
    · obtain ⟨b, o, rfl, d0, d1, d2⟩ := (h.below hA.below).at hlt
      have hx : evAt l j = l[j] := by simp [evAt, hlt]
      generalize l[j] = x at *
      have HX := Lib.hid hx
      clear hx
      have hAx := hA.next ((Below.refl _ wr).alloc (Nat.le_refl _) (.cells (evC x) 30))
      have hP := hAx.push hlt
      have hbx := (Has.new wr (evC x) 30)
      have tc := hAx.top.cell (rRow_get0 l.length j B hlt (by omega))
      have tf := hAx.top.free j
      have tl := hAx.top.lt
      have hsz : w.heap.size < wr.heap.size := hA.top.lt
      have i0 : (0 : Int) ≤ j := by omega
      have i1 : (j : Int) < l.length := by omega
      go_wp2
      have hP' : AhS w _ l.length (j + 1) _ (MidM l j fun _ => false) := hP.congr (M' := MidM l j fun _ => false) fun r k hr hk => by simp only [MidM]
      have hb' := ((hbx.alloc (.cells (bRow l.length fun _ => false) 4)).setCell_ne (a := ⟨w.heap.size, j, none⟩) (show wr.heap.size ≠ w.heap.size by omega) (.slice (some ⟨(wr.alloc (.cells (evC x) 30)).heap.size, 0, none⟩) l.length l.length))
      rw [World.size_alloc, World.setCell_alloc_past _ _ _ _ (by simp; omega), World.setCell_alloc_past _ _ _ _ hsz] at hP' hb'
      have hne : wr.heap.size < wr.heap.size + 1 := by omega
      clear hP hAx hbx tc tf tl d0 d1 d2 hA
      obtain ⟨wo, rfl⟩ : ∃ wo : World, wo = wr := ⟨_, rfl⟩
      generalize hB' : (fun r => if r = j then wo.heap.size + 1 else B r) = B' at hP'
      generalize hW : ((wo.setCell ⟨w.heap.size, j, none⟩ (.slice (some ⟨wo.heap.size + 1, 0, none⟩) l.length l.length)).alloc (.cells (evC x) 30)).alloc (.cells (bRow l.length fun _ => false) 4) = W0 at *
      clear hW hB'
      go_loopw [6] (fun i w2 => ∃ (m : Nat) (cur : Nat → Bool), m ≤ j ∧ i = .int .i64 ((m : Int) - 1) ∧ Hid (rowDn l (rowsTo l j) x m cur = rowDn l (rowsTo l j) x j (fun _ => false)) ∧ AhS w w2 l.length (j + 1) B' (MidM l j cur) ∧ Has w2 wo.heap.size (evC x) 30) (fun i _ => (intOf i + 1).toNat)
      case atStart => exact ⟨j, fun _ => false, Nat.le_refl _, rfl, Lib.hid rfl, hP', hb'⟩
      case round =>
        clear hP' hb'
        obtain ⟨m, cur, hm, rfl, HR, hA, hbx⟩ := hrel
        cases m with
        | zero =>
          have hF := hA.congr (M' := rowsTo l (j + 1)) (by
            intro r k hr hk
            have e1 : cur = rowDn l (rowsTo l j) x j (fun _ => false) := HR.out
            simp only [MidM, rowsTo, HX.out, ← e1])
          clear hA HR
          go_wp2
          go_roundw
          case rel => exact ⟨j + 1, B', by omega, by go_num, hF⟩
          case measure => (simp [intOf]; try omega)
        | succ q =>
          have hql : q < l.length := by omega
          have hqj : q < j := by omega
          have hjn : j < l.length := hlt
          have tc := hA.top.cell (rRow_get l.length (j + 1) B' hjn (by omega))
          have rc := (hA.rows j (by omega)).cell (bRow_get l.length (MidM l j cur j) hql)
          rw [show MidM l j cur j q = cur q by simp [MidM]] at rc
          obtain ⟨b2, o2, hbo, e0, e1, e2⟩ := (h.below hA.below).at hql
          cases hbo
          have hy : evAt l q = l[q] := by simp [evAt, hql]
          generalize l[q] = y at *
          have HY := Lib.hid hy
          clear hy
          have x0 : wr.cell? ⟨wo.heap.size, 0, none⟩ = some (.int .i64 x.k) := hbx.cell rfl
          have x1 : wr.cell? ⟨wo.heap.size, 1, none⟩ = some (.int .i64 x.t) := hbx.cell rfl
          have x2 : wr.cell? ⟨wo.heap.size, 2, none⟩ = some (.int .i64 x.o) := hbx.cell rfl
          have q0 : (0 : Int) ≤ q := by omega
          have q1 : (q : Int) < l.length := by omega
          have eq1 : (((q + 1 : Nat) : Int) - 1) = (q : Int) := by omega
          rw [eq1]
          clear eq1
          cases hcur : cur q
          · rw [hcur] at rc
            have hsl := hA.below.size
            go_wp2_with fail
            have g := hA.next (below_drewN (Below.refl _ _) 1)
            have gx := hbx.drewN 1
            have ye0 : wr.cell? ⟨b, o + q * 3, none⟩ = some (.int .i64 y.k) := e0
            have ye1 : wr.cell? ⟨b, o + q * 3 + 1, none⟩ = some (.int .i64 y.t) := e1
            have ye2 : wr.cell? ⟨b, o + q * 3 + 2, none⟩ = some (.int .i64 y.o) := e2
            go_region_held3 (fun W => (AhS w W l.length (j + 1) B' (MidM l j cur) ∧ Has W wo.heap.size (evC x) 30 ∧ Below wr.heap.size wr W) ∧ W.cell? ⟨w.heap.size, j, none⟩ = some (.slice (some ⟨B' j, 0, none⟩) l.length l.length) ∧ W.cell? ⟨B' j, q, none⟩ = some (.bool false) ∧ W.cell? ⟨b, o + q * 3, none⟩ = some (.int .i64 y.k) ∧ W.cell? ⟨b, o + q * 3 + 1, none⟩ = some (.int .i64 y.t) ∧ W.cell? ⟨b, o + q * 3 + 2, none⟩ = some (.int .i64 y.o) ∧ W.cell? ⟨wo.heap.size, 0, none⟩ = some (.int .i64 x.k) ∧ W.cell? ⟨wo.heap.size, 1, none⟩ = some (.int .i64 x.t) ∧ W.cell? ⟨wo.heap.size, 2, none⟩ = some (.int .i64 x.o))
              (first | exact ⟨⟨g, gx, below_drewN (Below.refl _ _) 1⟩, tc, rc, ye0, ye1, ye2, x0, x1, x2⟩ | exact ⟨⟨hA.next hB5, hbx.below hB5 hbx.lt, hB5⟩, (hB5.cell (World.block_lt_of_cell? wr _ tc)).trans tc, (hB5.cell (World.block_lt_of_cell? wr _ rc)).trans rc, (hB5.cell (World.block_lt_of_cell? wr _ ye0)).trans ye0, (hB5.cell (World.block_lt_of_cell? wr _ ye1)).trans ye1, (hB5.cell (World.block_lt_of_cell? wr _ ye2)).trans ye2, (hB5.cell (World.block_lt_of_cell? wr _ x0)).trans x0, (hB5.cell (World.block_lt_of_cell? wr _ x1)).trans x1, (hB5.cell (World.block_lt_of_cell? wr _ x2)).trans x2⟩)
              (first | (go_at_call 67; refine (directly_any y x _).mono ?_; rintro r w5 ⟨rfl, hq5⟩; have hB5 := (Below.refl wr.heap.size wr).drew.trans hq5))
            rename_i hS
            obtain ⟨⟨hA5, hx5, hB⟩, tc5, rc5, _, _, _, _, _, _⟩ := hS
            clear g gx ye0 ye1 ye2 x0 x1 x2 e0 e1 e2 tc rc hq5 hB5 hB hA hbx hsl
            cases hd : dirE y x
            · have HN : Hid (rowDn l (rowsTo l j) x q cur = rowDn l (rowsTo l j) x j (fun _ => false)) := Lib.hid (by rw [← HR.out]; simp [rowDn, HY.out, hd])
              clear HR hcur hd rc5 tc5
              go_wp2
              go_roundw
              case rel => exact ⟨q, cur, by omega, rfl, HN, hA5, hx5⟩
              case measure => (simp [intOf]; try omega)
            · have HN : Hid (rowDn l (rowsTo l j) x q (fun k => (if k = q then true else cur k) || rowsTo l j q k) = rowDn l (rowsTo l j) x j (fun _ => false)) := Lib.hid (by rw [← HR.out]; simp [rowDn, HY.out, hd, hcur])
              clear HR hcur hd
              have rf5 := (hA5.rows j (by omega)).free q
              have tq5 := hA5.top.cell (rRow_get l.length (j + 1) B' hql (by omega))
              have hfar := hA5.far j (by omega)
              have hs5 := (hA5.set (show j < j + 1 by omega) q true).congr (M' := MidM l j fun k => if k = q then true else cur k) (by
                intro r k hr hk
                simp only [updM, MidM]
                by_cases e1 : r = j <;> by_cases e2 : k = q <;> simp [e1, e2])
              have hsx := hx5.setCell_ne (a := ⟨B' j, q, none⟩) (hx5.ne_ty (hA5.rows j (by omega)) (by decide)) (.bool true)
              have ts := hs5.top.cell (rRow_get l.length (j + 1) B' hjn (by omega))
              have ts2 := hs5.top.cell (rRow_get l.length (j + 1) B' hql (by omega))
              go_wp2
              clear ts ts2 tc5 tq5 rc5 rf5 hA5 hx5
              generalize hcur1 : (fun k => if k = q then true else cur k) = cur1 at hs5
              have HC1 := Lib.hid hcur1
              clear hcur1
              obtain ⟨wm, rfl⟩ : ∃ wm : World, wm = wr := ⟨_, rfl⟩
              go_loopw [58] (fun i wr => ∃ k : Nat, k ≤ l.length ∧ i = .int .i64 k ∧ AhS w wr l.length (j + 1) B' (MidM l j fun z => if z < k then cur1 z || rowsTo l j q z else cur1 z) ∧ Has wr wo.heap.size (evC x) 30) (fun i _ => l.length - (intOf i).toNat)
              case atStart => exact ⟨0, Nat.zero_le _, rfl, by simpa using hs5, hsx⟩
              case round =>
                clear hs5 hsx
                obtain ⟨k, hk, rfl, hA, hbx⟩ := hrel
                by_cases hkl : k < l.length
                · have tc := hA.top.cell (rRow_get l.length (j + 1) B' hjn (by omega))
                  have rc := (hA.rows j (by omega)).cell (bRow_get l.length (MidM l j (fun z => if z < k then cur1 z || rowsTo l j q z else cur1 z) j) hkl)
                  have rf := (hA.rows j (by omega)).free k
                  have qc := (hA.rows q (by omega)).cell (bRow_get l.length (MidM l j (fun z => if z < k then cur1 z || rowsTo l j q z else cur1 z) q) hkl)
                  rw [show MidM l j (fun z => if z < k then cur1 z || rowsTo l j q z else cur1 z) j k = cur1 k by simp [MidM]] at rc
                  rw [show MidM l j (fun z => if z < k then cur1 z || rowsTo l j q z else cur1 z) q k = rowsTo l j q k by simp [MidM]; intro e; omega] at qc
                  have k0 : (0 : Int) ≤ k := by omega
                  have k1 : (k : Int) < l.length := by omega
                  have hs := hA.set (show j < j + 1 by omega) k (cur1 k || rowsTo l j q k)
                  have hs' := hs.congr (M' := MidM l j fun z => if z < k + 1 then cur1 z || rowsTo l j q z else cur1 z) (by
                    intro r z hr hz
                    simp only [updM, MidM]
                    by_cases e1 : r = j <;> by_cases e2 : z = k
                    · subst e1 e2; simp
                    · have e3 : z < k + 1 ↔ z < k := by omega
                      simp [e1, e2, e3]
                    · simp [e1]
                    · simp [e1])
                  have hbx' := hbx.setCell_ne (a := ⟨B' j, k, none⟩) (hbx.ne_ty (hA.rows j (by omega)) (by decide)) (.bool (cur1 k || rowsTo l j q k))
                  generalize hIs : rowsTo l j q k = is at *
                  generalize hCu : cur1 k = cu at *
                  clear hIs hCu hs
                  cases cu
                  all_goals
                    go_wp2
                    go_still_tail 16, (by kernel_rfl)
                    change wpList _ _ _ _ _ wr.drew
                    go_wp2
                    go_roundw
                    case rel => exact ⟨k + 1, by omega, by go_num, hs'.next (Below.refl _ _).drew, hbx'.drew⟩
                    case measure => (simp [intOf]; try omega)
                · obtain rfl : k = l.length := by omega
                  have hF := hA.congr (M' := MidM l j fun k => (if k = q then true else cur k) || rowsTo l j q k) (by
                    intro r z hr hz
                    have := HC1.out
                    subst this
                    simp only [MidM, if_pos hz])
                  clear hA
                  go_wp2
                  go_roundw
                  case rel => exact ⟨q, _, by omega, rfl, HN, hF, hbx⟩
                  case measure => (simp [intOf]; try omega)
          · rw [hcur] at rc
            have HN : Hid (rowDn l (rowsTo l j) x q cur = rowDn l (rowsTo l j) x j (fun _ => false)) := Lib.hid (by rw [← HR.out]; simp [rowDn, hcur])
            clear HR hcur
            go_wp2
            go_quiet (fail)
            go_wp2
            go_roundw
            case rel => exact ⟨q, cur, by omega, rfl, HN, hA.next (below_drewN (Below.refl _ _) _), hbx.drewN _⟩
            case measure => (simp [intOf]; try omega)
    · obtain rfl : j = l.length := by omega
      go_wp2
      go_ret
      exact ⟨B, rfl, hA⟩
end Go.Proofs.YtmeidjhojanogaaDoor
