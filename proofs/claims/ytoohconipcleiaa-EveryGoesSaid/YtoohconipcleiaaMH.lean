/- Joined texts. -/
import Derived.Test.YtoohconipcleiaaChecked
import Derived.Test.YtoohconipcleiaaBase
import Derived.Test.YtoohconipcleiaaOpen
import Derived.Maps.OwnOps
import Derived.Maps.OwnSet
import Derived.Maps.AppendAt
import Derived.Test.YtoohconipcleiaaMC
import Derived.Test.YtoohconipcleiaaMF
import Derived.Test.YtoohconipcleiaaMG

/- Maps of ints (to ints, to bools) that the call makes: what they hold at each key. -/
namespace Go.Proofs.Ytoohconipcleiaa
open Go.RowKit Go.Maps Go.WideShapes

theorem int_keys : Keyed Try.prog 3 := int_keyed Try.underlying3
theorem plainB_inv {P : Program} {e : TypeId} (he : P.underlying e = some .bool) {v : Value} {z : DataW Unit × List MemPlace} (h : plainElem P e v = some z) : ∃ x, v = .bool x ∧ z = (.lit (.bool x), []) := by
  unfold plainElem at h
  rw [he] at h
  cases v <;> simp at h
  exact ⟨_, rfl, h.symm⟩
/-- Block b is a map[int]int that reads so at each key. -/
structure MapI (w : World) (b n : Nat) (f : Int → Int) : Prop where
  out : ∃ D : DataW Unit, w.ownsMap Try.prog 3 (plainElem (H := Unit) Try.prog 3) b n D ∧ ∀ k, I64 k → D.atKey (.int .i64 k) (.lit (.int .i64 0)) = .lit (.int .i64 (f k))
theorem zero_I (w : World) : (zeroValue 3).run Try.prog w = .ok (.int .i64 0) w := by kernel_rfl
section
variable {w w' : World} {b n : Nat} {f : Int → Int}
theorem MapI.made (w : World) : MapI (w.alloc (.map #[] 0)) w.heap.size 0 (fun _ => 0) := ⟨_, World.ownsMap_made w _ _ _, fun _ _ => rfl⟩
theorem MapI.lt (h : MapI w b n f) : b < w.heap.size := by obtain ⟨D, h1, _⟩ := h.out; exact h1.lt
theorem MapI.look (h : MapI w b n f) {k : Int} (hk : I64 k) : (Instr.lookup 37 (.map (some b)) (.int .i64 k) false).run Try.prog w = .ok (.int .i64 (f k)) w := by
  obtain ⟨D, h1, h2⟩ := h.out
  obtain ⟨v, ps, hrun, hv⟩ := h1.lookup int_keys Try.underlying37 (zero_I w) (plainElem_int (q := .i64) (a := 0) Try.underlying3 (by decide)) (keyOf_int_mk (a := k) Try.underlying3 (WalkArith.wf_i64 hk))
  obtain ⟨x, rfl, hx, _⟩ := plainElem_int_inv Try.underlying3 hv
  have h2 := h2 k hk
  have hx' := congrArg Prod.fst hx
  simp only at hx'
  rw [h2] at hx'
  rw [hrun]
  simp at hx'
  rw [hx']
theorem MapI.put (h : MapI w b n f) (hn : n < maxLen) {k : Int} (hk : I64 k) (x : Int) (hx : I64 x) : ∃ w', (Instr.mapUpdate 37 (.map (some b)) (.int .i64 k) (.int .i64 x)).run Try.prog w = .ok () w' ∧ MapI w' b (n + 1) (fun i => if i = k then x else f i) ∧ w.grownBy w' (some b) := by
  obtain ⟨D, h1, h2⟩ := h.out
  obtain ⟨w', r, o, g⟩ := h1.update int_keys Try.underlying37 hn (keyOf_int_mk (a := k) Try.underlying3 (WalkArith.wf_i64 hk)) (plainElem_int (q := .i64) (a := x) Try.underlying3 (WalkArith.wf_i64 hx))
  refine ⟨w', r, ⟨_, o, fun i hi => ?_⟩, g⟩
  by_cases e : i = k
  · subst e
    rw [if_pos rfl]
    exact atKey_put_same h1.isMap (show WideAt.IsKeyLit (.int .i64 i) from trivial) _ _
  · rw [if_neg e, atKey_put_other (fun h => e (by injection h))]
    exact h2 i hi
theorem MapI.kept {row : Option Nat} (h : MapI w b n f) (g : w.grownBy w' row) (hne : some b ≠ row) : MapI w' b n f := by
  obtain ⟨D, h1, h2⟩ := h.out; exact ⟨D, h1.kept g hne, h2⟩
theorem MapI.below (h : MapI w b n f) (k : Below w.heap.size w w') : MapI w' b n f :=
  h.kept (row := none) ⟨k.os, k.tape, k.output, k.size, fun j hj _ => k.block j hj⟩ (by simp)
theorem MapI.drew (h : MapI w b n f) : MapI w.drew b n f := by obtain ⟨D, h1, h2⟩ := h.out; exact ⟨D, h1.drew, h2⟩
theorem MapI.setCell (h : MapI w b n f) (g i : Nat) (v : Value) (hne : b ≠ g) : MapI (w.setCell ⟨g, i, none⟩ v) b n f := by
  obtain ⟨D, h1, h2⟩ := h.out; exact ⟨D, h1.setCell (a := ⟨g, i, none⟩) hne v, h2⟩
end
/-- Block b is a map[int]bool that reads so at each key. -/
structure MapB (w : World) (b n : Nat) (f : Int → Bool) : Prop where
  out : ∃ D : DataW Unit, w.ownsMap Try.prog 3 (plainElem (H := Unit) Try.prog 4) b n D ∧ ∀ k, I64 k → D.atKey (.int .i64 k) (.lit (.bool false)) = .lit (.bool (f k))
theorem zero_B (w : World) : (zeroValue 4).run Try.prog w = .ok (.bool false) w := by kernel_rfl
section
variable {w w' : World} {b n : Nat} {f : Int → Bool}
theorem MapB.made (w : World) : MapB (w.alloc (.map #[] 0)) w.heap.size 0 (fun _ => false) := ⟨_, World.ownsMap_made w _ _ _, fun _ _ => rfl⟩
theorem MapB.lt (h : MapB w b n f) : b < w.heap.size := by obtain ⟨D, h1, _⟩ := h.out; exact h1.lt
theorem MapB.look (h : MapB w b n f) {k : Int} (hk : I64 k) : (Instr.lookup 61 (.map (some b)) (.int .i64 k) false).run Try.prog w = .ok (.bool (f k)) w := by
  obtain ⟨D, h1, h2⟩ := h.out
  obtain ⟨v, ps, hrun, hv⟩ := h1.lookup int_keys Try.underlying61 (zero_B w) (plainElem_bool Try.underlying4 false) (keyOf_int_mk (a := k) Try.underlying3 (WalkArith.wf_i64 hk))
  obtain ⟨x, rfl, hx⟩ := plainB_inv Try.underlying4 hv
  have h2 := h2 k hk
  have hx' := congrArg Prod.fst hx
  simp only at hx'
  rw [h2] at hx'
  rw [hrun]
  simp at hx'
  rw [hx']
theorem MapB.put (h : MapB w b n f) (hn : n < maxLen) {k : Int} (hk : I64 k) (x : Bool) : ∃ w', (Instr.mapUpdate 61 (.map (some b)) (.int .i64 k) (.bool x)).run Try.prog w = .ok () w' ∧ MapB w' b (n + 1) (fun i => if i = k then x else f i) ∧ w.grownBy w' (some b) := by
  obtain ⟨D, h1, h2⟩ := h.out
  obtain ⟨w', r, o, g⟩ := h1.update int_keys Try.underlying61 hn (keyOf_int_mk (a := k) Try.underlying3 (WalkArith.wf_i64 hk)) (plainElem_bool Try.underlying4 x)
  refine ⟨w', r, ⟨_, o, fun i hi => ?_⟩, g⟩
  by_cases e : i = k
  · subst e
    rw [if_pos rfl]
    exact atKey_put_same h1.isMap (show WideAt.IsKeyLit (.int .i64 i) from trivial) _ _
  · rw [if_neg e, atKey_put_other (fun h => e (by injection h))]
    exact h2 i hi
theorem MapB.kept {row : Option Nat} (h : MapB w b n f) (g : w.grownBy w' row) (hne : some b ≠ row) : MapB w' b n f := by
  obtain ⟨D, h1, h2⟩ := h.out; exact ⟨D, h1.kept g hne, h2⟩
theorem MapB.below (h : MapB w b n f) (k : Below w.heap.size w w') : MapB w' b n f :=
  h.kept (row := none) ⟨k.os, k.tape, k.output, k.size, fun j hj _ => k.block j hj⟩ (by simp)
theorem MapB.drew (h : MapB w b n f) : MapB w.drew b n f := by obtain ⟨D, h1, h2⟩ := h.out; exact ⟨D, h1.drew, h2⟩
theorem MapB.setCell (h : MapB w b n f) (g i : Nat) (v : Value) (hne : b ≠ g) : MapB (w.setCell ⟨g, i, none⟩ v) b n f := by
  obtain ⟨D, h1, h2⟩ := h.out; exact ⟨D, h1.setCell (a := ⟨g, i, none⟩) hne v, h2⟩
end
end Go.Proofs.Ytoohconipcleiaa

/- The map of ops' kinds to events' kinds, that two laws make. -/
namespace Go.Proofs.Ytoohconipcleiaa
open Go.RowKit

theorem MapI.to {w : World} {b n : Nat} {f g : Int → Int} (h : MapI w b n f) (e : ∀ i, f i = g i) : MapI w b n g := by rw [← funext e]; exact h
set_option maxRecDepth 100000 in
theorem kinds_fill (w : World) : ∃ w1 w2 w3 w4 w5 w6 w7 w8 : World,
    (Instr.mapUpdate 37 (.map (some w.heap.size)) (.int .i64 1) (.int .i64 1)).run Try.prog (w.alloc (.map #[] 0)) = .ok () w1 ∧
    (Instr.mapUpdate 37 (.map (some w.heap.size)) (.int .i64 2) (.int .i64 2)).run Try.prog w1 = .ok () w2 ∧
    (Instr.mapUpdate 37 (.map (some w.heap.size)) (.int .i64 4) (.int .i64 3)).run Try.prog w2 = .ok () w3 ∧
    (Instr.mapUpdate 37 (.map (some w.heap.size)) (.int .i64 5) (.int .i64 4)).run Try.prog w3 = .ok () w4 ∧
    (Instr.mapUpdate 37 (.map (some w.heap.size)) (.int .i64 6) (.int .i64 5)).run Try.prog w4 = .ok () w5 ∧
    (Instr.mapUpdate 37 (.map (some w.heap.size)) (.int .i64 7) (.int .i64 6)).run Try.prog w5 = .ok () w6 ∧
    (Instr.mapUpdate 37 (.map (some w.heap.size)) (.int .i64 8) (.int .i64 7)).run Try.prog w6 = .ok () w7 ∧
    (Instr.mapUpdate 37 (.map (some w.heap.size)) (.int .i64 9) (.int .i64 8)).run Try.prog w7 = .ok () w8 ∧
    MapI w8 w.heap.size 8 evK ∧ (w.alloc (.map #[] 0)).grownBy w8 (some w.heap.size) := by
  have h0 := MapI.made w
  obtain ⟨w1, r1, h1, g1⟩ := h0.put (by decide) (k := 1) (by unfold I64; decide) 1 (by unfold I64; decide)
  obtain ⟨w2, r2, h2, g2⟩ := h1.put (by decide) (k := 2) (by unfold I64; decide) 2 (by unfold I64; decide)
  obtain ⟨w3, r3, h3, g3⟩ := h2.put (by decide) (k := 4) (by unfold I64; decide) 3 (by unfold I64; decide)
  obtain ⟨w4, r4, h4, g4⟩ := h3.put (by decide) (k := 5) (by unfold I64; decide) 4 (by unfold I64; decide)
  obtain ⟨w5, r5, h5, g5⟩ := h4.put (by decide) (k := 6) (by unfold I64; decide) 5 (by unfold I64; decide)
  obtain ⟨w6, r6, h6, g6⟩ := h5.put (by decide) (k := 7) (by unfold I64; decide) 6 (by unfold I64; decide)
  obtain ⟨w7, r7, h7, g7⟩ := h6.put (by decide) (k := 8) (by unfold I64; decide) 7 (by unfold I64; decide)
  obtain ⟨w8, r8, h8, g8⟩ := h7.put (by decide) (k := 9) (by unfold I64; decide) 8 (by unfold I64; decide)
  refine ⟨w1, w2, w3, w4, w5, w6, w7, w8, r1, r2, r3, r4, r5, r6, r7, r8, h8.to (fun i => ?_), ((((((g1.trans g2).trans g3).trans g4).trans g5).trans g6).trans g7).trans g8⟩
  unfold evK
  (repeat' split) <;> omega
theorem evK_I64 (k : Int) : I64 (evK k) := by
  unfold evK I64
  (repeat' split) <;> decide
end Go.Proofs.Ytoohconipcleiaa

/- What TopReplay keeps in memory: a run told again by its events. -/
namespace Go.Proofs.Ytoohconipcleiaa
open Go.RowKit

/-- The places, as cells. -/
abbrev atN (f : Nat → Nat) : Array Value := clkC fun i => (f i : Int)
/-- What is told again, in five blocks in a row from M on, the map last. -/
structure TR (w : World) (M : Nat) (r : RS) : Prop where
  map : MapI w (M + 4) 8 evK
  mem : Has w M (ar8 r.mem) 25
  vols : Has w (M + 1) (ar4 r.vols) 26
  has : Has w (M + 2) (clkC r.has) 27
  at_ : Has w (M + 3) (atN r.at_) 27
section
variable {w w' : World} {M : Nat} {r : RS}
theorem TR.lt (h : TR w M r) : M + 4 < w.heap.size := h.map.lt
theorem TR.below (h : TR w M r) (k : Below w.heap.size w w') : TR w' M r :=
  ⟨h.map.below k, h.mem.below k h.mem.lt, h.vols.below k h.vols.lt, h.has.below k h.has.lt, h.at_.below k h.at_.lt⟩
theorem TR.to (h : TR w M r) {s : RS} (e : r = s) : TR w M s := e ▸ h
theorem TR.setMem (h : TR w M r) {o : Nat} (ho : o < 8) (x : Int) : TR (w.setCell ⟨M, o, none⟩ (.int .i64 x)) M { r with mem := upZ r.mem o x } :=
  ⟨h.map.setCell M o _ (by omega), (h.mem.setCell o _).to (ar8_set _ ho x), h.vols.setCell_ne (a := ⟨M, o, none⟩) (by simp) _, h.has.setCell_ne (a := ⟨M, o, none⟩) (by simp) _, h.at_.setCell_ne (a := ⟨M, o, none⟩) (by simp) _⟩
theorem TR.setVols (h : TR w M r) {o : Nat} (ho : o < 4) (x : Int) : TR (w.setCell ⟨M + 1, o, none⟩ (.int .i64 x)) M { r with vols := upZ r.vols o x } :=
  ⟨h.map.setCell (M + 1) o _ (by omega), h.mem.setCell_ne (a := ⟨M + 1, o, none⟩) (by simp) _, (h.vols.setCell o _).to (ar4_set _ ho x), h.has.setCell_ne (a := ⟨M + 1, o, none⟩) (by simp) _, h.at_.setCell_ne (a := ⟨M + 1, o, none⟩) (by simp) _⟩
theorem TR.setHas (h : TR w M r) {o : Nat} (ho : o < 6) (x : Int) : TR (w.setCell ⟨M + 2, o, none⟩ (.int .i64 x)) M { r with has := upZ r.has o x } :=
  ⟨h.map.setCell (M + 2) o _ (by omega), h.mem.setCell_ne (a := ⟨M + 2, o, none⟩) (by simp) _, h.vols.setCell_ne (a := ⟨M + 2, o, none⟩) (by simp) _, (h.has.setCell o _).to (clkC_set _ _ ho x), h.at_.setCell_ne (a := ⟨M + 2, o, none⟩) (by simp) _⟩
theorem TR.setAt (h : TR w M r) {o : Nat} (ho : o < 6) (x : Nat) : TR (w.setCell ⟨M + 3, o, none⟩ (.int .i64 (x : Int))) M { r with at_ := upN r.at_ o x } :=
  ⟨h.map.setCell (M + 3) o _ (by omega), h.mem.setCell_ne (a := ⟨M + 3, o, none⟩) (by simp) _, h.vols.setCell_ne (a := ⟨M + 3, o, none⟩) (by simp) _, h.has.setCell_ne (a := ⟨M + 3, o, none⟩) (by simp) _,
    (h.at_.setCell o _).to (by rw [clkC_set _ _ ho]; exact clkC_congr fun i _ => by unfold upN; by_cases e : i = o <;> simp [e])⟩
end
/-- Thread t at its op m. -/
def tmR (r : RS) (t : Nat) (z : List Ev) (m : Nat) : RS := { r with at_ := upN r.at_ t m, has := upZ r.has t (r.has t + addsF z (r.at_ t) m) }
theorem tmR_first (r : RS) (t : Nat) (z : List Ev) : tmR r t z (r.at_ t) = r := by
  unfold tmR
  have h1 : upN r.at_ t (r.at_ t) = r.at_ := by funext i; unfold upN; split <;> simp_all
  have h2 : upZ r.has t (r.has t + addsF z (r.at_ t) (r.at_ t)) = r.has := by rw [addsF_self, Int.add_zero]; funext i; unfold upZ; split <;> simp_all
  rw [h1, h2]
theorem tmR_add {r : RS} {t : Nat} {z : List Ev} {m : Nat} (h1 : r.at_ t ≤ m) (h2 : m < z.length) :
    ({ tmR r t z m with has := upZ (tmR r t z m).has t ((tmR r t z m).has t + if z[m].k = 3 then z[m].o else 0), at_ := upN (tmR r t z m).at_ t (m + 1) } : RS) = tmR r t z (m + 1) := by
  unfold tmR
  have e1 : upN (upN r.at_ t m) t (m + 1) = upN r.at_ t (m + 1) := by funext i; unfold upN; split <;> rfl
  have e2 : upZ (upZ r.has t (r.has t + addsF z (r.at_ t) m)) t (upZ r.has t (r.has t + addsF z (r.at_ t) m) t + if z[m].k = 3 then z[m].o else 0) = upZ r.has t (r.has t + addsF z (r.at_ t) (m + 1)) := by
    rw [addsF_succ h1 h2, upZ_same]
    funext i; unfold upZ; split
    · omega
    · rfl
  show RS.mk _ _ _ _ = RS.mk _ _ _ _
  rw [e1, e2]
/-- The switch at the end. -/
def endW (r : RS) (x : Ev) : RS :=
  if x.k = 1 then { r with has := upZ r.has x.t.toNat (r.mem x.o.toNat) }
  else if x.k = 2 then { r with mem := upZ r.mem x.o.toNat (r.has x.t.toNat) }
  else if x.k = 7 then { r with has := upZ r.has x.t.toNat (r.vols x.o.toNat) }
  else if x.k = 8 then { r with vols := upZ r.vols x.o.toNat (r.has x.t.toNat) }
  else r
theorem upZ_twice (f : Nat → Int) (t : Nat) (x y : Int) : upZ (upZ f t x) t y = upZ f t y := by funext i; unfold upZ; split <;> rfl
theorem endW_step {p : List (List Ev)} {r : RS} {x : Ev} {F : Nat} (hF : findF (opsP p x.t.toNat) x (r.at_ x.t.toNat) = F) (hlt : F < (opsP p x.t.toNat).length) (hk : (opsP p x.t.toNat)[F].k ≠ 3) :
    endW (tmR r x.t.toNat (opsP p x.t.toNat) (F + 1)) x = rstep p r x := by
  have hle : r.at_ x.t.toNat ≤ F := by rw [← hF]; exact findF_ge _ _ _
  have hH : rHas p r x = r.has x.t.toNat + addsF (opsP p x.t.toNat) (r.at_ x.t.toNat) (F + 1) := by
    unfold rHas
    rw [hF, addsF_succ hle hlt, if_neg hk, Int.add_zero]
  have e : rstep p r x = ⟨if x.k = 2 then upZ r.mem x.o.toNat (rHas p r x) else r.mem, if x.k = 8 then upZ r.vols x.o.toNat (rHas p r x) else r.vols,
      upZ r.has x.t.toNat (if x.k = 1 then r.mem x.o.toNat else if x.k = 7 then r.vols x.o.toNat else rHas p r x), upN r.at_ x.t.toNat (F + 1)⟩ := by
    show RS.mk _ _ _ _ = _
    rw [hF]
  rw [e, hH]
  unfold endW tmR
  by_cases k1 : x.k = 1
  · rw [if_pos k1, if_pos k1, if_neg (by omega), if_neg (by omega)]
    show RS.mk _ _ _ _ = _
    rw [upZ_twice]
  rw [if_neg k1, if_neg k1]
  by_cases k2 : x.k = 2
  · rw [if_pos k2, if_pos k2, if_neg (by omega), if_neg (by omega)]
    simp only [upZ_same]
  rw [if_neg k2, if_neg k2]
  by_cases k7 : x.k = 7
  · rw [if_pos k7, if_pos k7, if_neg (by omega)]
    show RS.mk _ _ _ _ = _
    rw [upZ_twice]
  rw [if_neg k7, if_neg k7]
  by_cases k8 : x.k = 8
  · rw [if_pos k8, if_pos k8]
    simp only [upZ_same]
  rw [if_neg k8, if_neg k8]
end Go.Proofs.Ytoohconipcleiaa
