/- Joined texts. -/
import Derived.Test.YtmeidjhojanogaaDoorFsB
import Derived.Deep.RegionLaw
import Derived.Deep.DeepCutAuto
import Derived.Test.YtmeidjhojanogaaDoorFsC
import Derived.Test.YtmeidjhojanogaaDoorFsD
import Derived.Test.YtmeidjhojanogaaDoorFrn

/- The fast detector's cell: a read. -/
namespace Go.Proofs.YtmeidjhojanogaaDoor
open Go.RowKit

set_option maxRecDepth 100000 in
set_option maxHeartbeats 8000000 in
theorem reads_many (x : Fc) (t : Nat) (c : Nat → Int) (b : Nat) (w : World) (h : Has w b (fcC x) 130) (hm : x.many = true) (hwt : x.wt < 6) (ht : t < 6) :
    Calls Tryd.prog 79 #[.pointer (some ⟨b, 0, none⟩), epV t (c t), clkV c] w fun r w' => r = .returned (.int .i64 (if x.seen c then 0 else 2)) ∧ CTook w w' b { x with rc := setC x.rc t (c t) } := by
  have he := fun w => eq_many x.rc t (c t) w
  have hal := fun w => alsoMany x.rc c t (c t) w ht
  have hsn := fun w => seen_ok x.wn c x.wt w hwt
  have hmk := fun v w => (method_many v w).2
  have has := assert_many
  have hS : x.seen c = decide (x.wn ≤ c x.wt) := rfl
  rw [← hS] at hsn
  clear hS
  generalize x.seen c = q1 at *
  have hR : rdI x = manyI x.rc := by simp [rdI, hm]
  have HT := Lib.hid (show fcC { x with rc := setC x.rc t (c t) } = #[.int .i64 (x.wt : Int), .int .i64 x.wn, manyI (setC x.rc t (c t)), .int .i64 x.slow] by simp only [fcC, rdI, hm]; rfl)
  rw [show fcC x = #[.int .i64 (x.wt : Int), .int .i64 x.wn, manyI x.rc, .int .i64 x.slow] by simp only [fcC, hR]] at h
  clear hm hR
  generalize x.wt = wt at *
  generalize x.wn = wn at *
  generalize x.slow = sl at *
  generalize x.rc = rc at *
  have h1 := (h.alloc (.cells (epC t (c t)) 126)).alloc (.cells (clkC c) 95)
  have hN := (Has.new w (epC t (c t)) 126).alloc (.cells (clkC c) 95)
  have hc := (Has.new (w.alloc (.cells (epC t (c t)) 126)) (clkC c) 95).at (c := w.heap.size + 1) (by simp)
  have hb : Below w.heap.size w ((w.alloc (.cells (epC t (c t)) 126)).alloc (.cells (clkC c) 95)) := ((Below.refl _ _).alloc (by simp) _).alloc (by simp) _
  have hlt := h.lt
  have n0 : b ≠ w.heap.size := by omega
  have n1 : b ≠ w.heap.size + 1 := by omega
  go_enter Tryd.func79, Tryd.ntmps79
  go_wp2_with fail
  generalize (w.alloc (.cells (epC t (c t)) 126)).alloc (.cells (clkC c) 95) = w1 at *
  have f2 : w1.cell? ⟨b, 2, none⟩ = some (manyI rc) := h1.cell rfl
  have e0 : w1.cell? ⟨w.heap.size, 0, none⟩ = some (.int .i64 t) := hN.cell rfl
  have e1 : w1.cell? ⟨w.heap.size, 1, none⟩ = some (.int .i64 (c t)) := hN.cell rfl
  go_quiet (fail)
  go_wp2_with fail
  clear f2 e0 e1 he
  replace h1 := (h1.drewN nq).drew
  replace hN := (hN.drewN nq).drew
  replace hc := (hc.drewN nq).drew
  replace hb := (below_drewN hb nq).drew
  go_region_held3 (fun W => (Has W b #[.int .i64 (wt : Int), .int .i64 wn, manyI rc, .int .i64 sl] 130 ∧ Has W w.heap.size (epC t (c t)) 126 ∧ Has W (w.heap.size + 1) (clkC c) 95 ∧ Below w.heap.size w W) ∧ (W.cell? ⟨b, 0, none⟩ = some (.int .i64 wt) ∧ W.cell? ⟨b, 1, none⟩ = some (.int .i64 wn)) ∧ BoxAt W (w.heap.size + 1) c)
    (first | exact ⟨⟨h1, hN, hc, hb⟩, ⟨h1.cell rfl, h1.cell rfl⟩, hc.clk⟩ | exact ⟨⟨j1, jN, jc, jb⟩, ⟨j1.cell rfl, j1.cell rfl⟩, jc.clk⟩)
    (first | (go_simp; go_at_call 90; refine (hsn _).mono ?_; rintro r w6 ⟨rfl, hk6⟩; have j1 := h1.below hk6 h1.lt; have jN := hN.below hk6 hN.lt; have jc := hc.below hk6 hc.lt; have jb := hb.trans (hk6.mono hb.size)))
  all_goals
    clear hsn hk6
    cases q1
    all_goals
      have f2 : w6.cell? ⟨b, 2, none⟩ = some (manyI rc) := j1.cell rfl
      go_wp2_with fail
      clear f2 h1 hN hc hb
      have h1 := j1.alloc (.cells (clkC rc) 168)
      have hN := jN.alloc (.cells (clkC rc) 168)
      have hc := jc.alloc (.cells (clkC rc) 168)
      have hb := jb.alloc jb.size (.cells (clkC rc) 168)
      clear j1 jN jc jb
      generalize w6.alloc (.cells (clkC rc) 168) = w7 at *
      have f2 : w7.cell? ⟨b, 2, none⟩ = some (manyI rc) := h1.cell rfl
      have e0 : w7.cell? ⟨w.heap.size, 0, none⟩ = some (.int .i64 t) := hN.cell rfl
      have e1 : w7.cell? ⟨w.heap.size, 1, none⟩ = some (.int .i64 (c t)) := hN.cell rfl
      obtain ⟨c0, c1, c2, c3, c4, c5⟩ := hc.clk
      go_cut [41] (fun p wx => p = manyI (setC rc t (c t)) ∧ Has wx b #[.int .i64 (wt : Int), .int .i64 wn, manyI (setC rc t (c t)), .int .i64 sl] 130 ∧ w.grownBy wx (some b))
      case first =>
        go_region_law (first | (go_simp; go_at_call 111; refine (hal _).mono ?_; rintro r w8 ⟨rfl, hk⟩; have p1 := h1.drew.below hk h1.lt; have pb := hb.drew.trans (hk.mono hb.size); have f2' : w8.cell? ⟨b, 2, none⟩ = some (manyI rc) := p1.cell rfl; have g2 := p1.free 2))
        all_goals
          have p2 := (p1.setCell 2 (manyI (setC rc t (c t)))).to (ds := #[.int .i64 (wt : Int), .int .i64 wn, manyI (setC rc t (c t)), .int .i64 sl]) rfl
          have pg := grown_set (a := ⟨b, 2, none⟩) (grown_of (b := b) pb) rfl (manyI (setC rc t (c t)))
          go_wp2
          go_meet
          exact ⟨rfl, p2, pg⟩
      case rest =>
        obtain ⟨rfl, p2, pg⟩ := hcut
        clear f2 e0 e1 c0 c1 c2 c3 c4 c5 h1 hN hc hb hal
        have f2 : wc.cell? ⟨b, 2, none⟩ = some (manyI (setC rc t (c t))) := p2.cell rfl
        have f3 : wc.cell? ⟨b, 3, none⟩ = some (.int .i64 sl) := p2.cell rfl
        have g3 := p2.free 3
        have hbl := p2.lt
        go_wp2
        go_ret
        refine ⟨rfl, ⟨?_, ?_⟩⟩
        · rw [HT.out]
          exact p2.alloc _
        · exact pg.trans_below ((Below.refl _ _).alloc (Nat.le_refl _) _)

end Go.Proofs.YtmeidjhojanogaaDoor

/- Contract of the fast detector's Access. -/
namespace Go.Proofs.YtmeidjhojanogaaDoor
open Go.RowKit

/-- What a cell's numbers keep to. -/
structure FcOk (x : Fc) (m : Int) : Prop where
  wt : x.wt < 6
  rt : x.rt < 6
  slow : 0 ≤ x.slow ∧ x.slow ≤ m
theorem reads_any (x : Fc) (t : Nat) (c : Nat → Int) (b : Nat) (w : World) (h : Has w b (fcC x) 130) (hx : FcOk x 1000) (ht : t < 6) :
    Calls Tryd.prog 79 #[.pointer (some ⟨b, 0, none⟩), epV t (c t), clkV c] w fun r w' => r = .returned (.int .i64 (x.read t c).2) ∧ CTook w w' b (x.read t c).1 := by
  cases hm : x.many
  · by_cases hs : x.rt = t ∧ x.rn = c t
    · have he : x.read t c = (x, 0) := by rw [Fc.read, if_pos ⟨hm, hs⟩]
      rw [he]
      exact reads_same x t (c t) c b w h hm hs
    · have he : x.read t c = (if decide (x.rn ≤ c x.rt) then { x with rt := t, rn := c t } else { x with many := true, rc := setC (setC (fun _ => 0) x.rt x.rn) t (c t), slow := x.slow + 1 }, if x.seen c then 0 else 2) := by
        rw [Fc.read, if_neg (fun hh => hs hh.2), hm]; rfl
      rw [he]
      cases hq : decide (x.rn ≤ c x.rt)
      · exact reads_slow x t c b w h hm hx.rt hs hq hx.slow hx.wt ht
      · exact reads_one x t c b w h hm hx.rt hs hq hx.wt ht
  · have he : x.read t c = ({ x with rc := setC x.rc t (c t) }, if x.seen c then 0 else 2) := by
      rw [Fc.read, if_neg (fun hh => by rw [hm] at hh; cases hh.1), if_pos hm]
    rw [he]
    exact reads_many x t c b w h hm hx.wt ht
theorem writes_any (x : Fc) (t : Nat) (c : Nat → Int) (b : Nat) (w : World) (h : Has w b (fcC x) 130) (hx : FcOk x 1000) :
    Calls Tryd.prog 80 #[.pointer (some ⟨b, 0, none⟩), epV t (c t), clkV c] w fun r w' => r = .returned (.int .i64 (x.write t c).2) ∧ CTook w w' b (x.write t c).1 := by
  by_cases hs : x.wt = t ∧ x.wn = c t
  · have he : x.write t c = (x, 0) := by rw [Fc.write, if_pos hs]
    rw [he]
    exact writes_same x t (c t) c b w h hs
  · cases hm : x.many
    · have he : x.write t c = ({ x with wt := t, wn := c t }, if x.seen c then (if x.known c then 0 else 3) else 1) := by
        rw [Fc.write, if_neg hs, if_neg (by rw [hm]; decide)]
      rw [he]
      exact writes_one x t c b w h hm hx.rt hx.wt hs
    · have he : x.write t c = ({ x with wt := t, wn := c t, many := false, rt := 0, rn := 0 }, if x.seen c then (if x.known c then 0 else 3) else 1) := by
        rw [Fc.write, if_neg hs, if_pos hm]
      rw [he]
      exact writes_many x t c b w h hm hx.wt hs

set_option maxRecDepth 100000 in
set_option maxHeartbeats 2000000 in
theorem faccess_any (x : Fc) (K : Int) (hK : K = 1 ∨ K = 2) (t o : Nat) (c : Nat → Int) (b : Nat) (w : World) (h : Has w b (fcC x) 130) (hx : FcOk x 1000) (ht : t < 6) :
    Calls Tryd.prog 65 #[.pointer (some ⟨b, 0, none⟩), evV ⟨K, t, o⟩, clkV c] w fun r w' => r = .returned (.int .i64 (x.acc ⟨K, t, o⟩ c).2) ∧ CTook w w' b (x.acc ⟨K, t, o⟩ c).1 := by
  have hb : Below w.heap.size w ((w.alloc (.cells (evC ⟨K, t, o⟩) 30)).alloc (.cells (clkC c) 95)) := ((Below.refl _ _).alloc (by simp) _).alloc (by simp) _
  have h1 := (h.alloc (.cells (evC ⟨K, t, o⟩) 30)).alloc (.cells (clkC c) 95)
  have hN := (Has.new w (evC ⟨K, t, o⟩) 30).alloc (.cells (clkC c) 95)
  have hc := (Has.new (w.alloc (.cells (evC ⟨K, t, o⟩) 30)) (clkC c) 95).at (c := w.heap.size + 1) (by simp)
  go_enter Tryd.func65, Tryd.ntmps65
  go_wp2_with fail
  generalize (w.alloc (.cells (evC ⟨K, t, o⟩) 30)).alloc (.cells (clkC c) 95) = w1 at *
  refine (of_ok c t _ ht).mono ?_
  rintro r w2 ⟨rfl, hk⟩
  replace h1 := h1.below hk h1.lt
  replace hN := hN.below hk hN.lt
  replace hc := hc.below hk hc.lt
  replace hb := hb.trans (hk.mono hb.size)
  clear hk
  have e0 : w2.cell? ⟨w.heap.size, 0, none⟩ = some (.int .i64 K) := hN.cell rfl
  obtain ⟨c0, c1, c2, c3, c4, c5⟩ := hc.clk
  have hNl := hN.lt
  have hcl := hc.lt
  have h3 := h1.alloc (.cells (epC t (c t)) 126)
  have hb3 := hb.alloc hb.size (.cells (epC t (c t)) 126)
  rcases hK with rfl | rfl
  · have he : x.acc ⟨1, t, o⟩ c = x.read t c := by simp [Fc.acc]
    have HE := Lib.hid he
    clear he
    go_wp2_with fail
    refine (reads_any x t c b _ h3 hx ht).mono ?_
    rintro r w4 ⟨rfl, ht4⟩
    go_wp2
    go_ret
    rw [HE.out]
    exact ⟨rfl, ⟨ht4.has, (grown_of hb3).trans ht4.grown⟩⟩
  · have he : x.acc ⟨2, t, o⟩ c = x.write t c := by simp [Fc.acc]
    have HE := Lib.hid he
    clear he
    go_wp2_with fail
    refine (writes_any x t c b _ h3 hx).mono ?_
    rintro r w4 ⟨rfl, ht4⟩
    go_wp2
    go_ret
    rw [HE.out]
    exact ⟨rfl, ⟨ht4.has, (grown_of hb3).trans ht4.grown⟩⟩
end Go.Proofs.YtmeidjhojanogaaDoor

/- The fast detector's run: the cells are made. -/
namespace Go.Proofs.YtmeidjhojanogaaDoor
open Go.RowKit

/-- Eight values. -/
abbrev pA (f : Nat → Value) : Array Value := #[f 0, f 1, f 2, f 3, f 4, f 5, f 6, f 7]
theorem pA_get (f : Nat → Value) {k : Nat} (hk : k < 8) : (pA f)[k]? = some (f k) := by
  rcases (by omega : k = 0 ∨ k = 1 ∨ k = 2 ∨ k = 3 ∨ k = 4 ∨ k = 5 ∨ k = 6 ∨ k = 7) with rfl | rfl | rfl | rfl | rfl | rfl | rfl | rfl <;> rfl
theorem pA_set (f : Nat → Value) {k : Nat} (hk : k < 8) (v : Value) : (pA f).setIfInBounds k v = pA fun i => if i = k then v else f i := by
  rcases (by omega : k = 0 ∨ k = 1 ∨ k = 2 ∨ k = 3 ∨ k = 4 ∨ k = 5 ∨ k = 6 ∨ k = 7) with rfl | rfl | rfl | rfl | rfl | rfl | rfl | rfl <;> simp [pA]
theorem pA_congr {f g : Nat → Value} (h : ∀ i, i < 8 → f i = g i) : pA f = pA g := by
  simp only [pA, h 0 (by omega), h 1 (by omega), h 2 (by omega), h 3 (by omega), h 4 (by omega), h 5 (by omega), h 6 (by omega), h 7 (by omega)]
/-- The first k of eight pointers. -/
def ptK (P : Nat → Nat) (k : Nat) : Nat → Value := fun x => if x < k then .pointer (some ⟨P x, 0, none⟩) else .pointer none
/-- The cells' blocks, the first k of them made. -/
structure Cells (w : World) (A : Nat) (P : Nat → Nat) (k : Nat) (F : Nat → Fc) : Prop where
  arr : Has w A (pA (ptK P k)) 114
  cell : ∀ x, x < k → Has w (P x) (fcC (F x)) 130
  above : ∀ x, x < k → A < P x
  ne : ∀ x y, x < k → y < k → P x = P y → x = y
theorem Cells.more {w w' w'' : World} {A : Nat} {P : Nat → Nat} {k : Nat} {F : Nat → Fc} (h : Cells w A P k F) (hk : k < 8) (hb : Below w.heap.size w w') (hn : Has w' w.heap.size (fcC (F k)) 130)
    (hw : w'' = w'.setCell ⟨A, k, none⟩ (.pointer (some ⟨w.heap.size, 0, none⟩))) : Cells w'' A (fun x => if x = k then w.heap.size else P x) (k + 1) F := by
  subst hw
  have hA := h.arr.lt
  refine ⟨?_, ?_, ?_, ?_⟩
  · refine ((h.arr.below hb hA).setCell k (.pointer (some ⟨w.heap.size, 0, none⟩))).to ?_
    rw [pA_set _ hk]
    refine pA_congr fun i _ => ?_
    simp only [ptK]
    by_cases e : i = k
    · subst e; simp
    · by_cases e2 : i < k
      · rw [if_neg e, if_pos e2, if_pos (by omega), if_neg e]
      · rw [if_neg e, if_neg e2, if_neg (by omega)]
  · intro x hx
    by_cases e : x = k
    · subst e
      simp only [if_true]
      exact hn.setCell_ne (by simp only; omega) _
    · simp only [if_neg e]
      have h2 := h.cell x (by omega)
      exact (h2.below hb h2.lt).setCell_ne (by have := h.above x (by omega); simp only; omega) _
  · intro x hx
    by_cases e : x = k
    · simp only [if_pos e]; exact hA
    · simp only [if_neg e]; exact h.above x (by omega)
  · intro x y hx hy hxy
    by_cases e : x = k <;> by_cases e2 : y = k
    · omega
    · simp only [if_pos e, if_neg e2] at hxy
      have := (h.cell y (by omega)).lt
      omega
    · simp only [if_neg e, if_pos e2] at hxy
      have := (h.cell x (by omega)).lt
      omega
    · simp only [if_neg e, if_neg e2] at hxy
      exact h.ne x y (by omega) (by omega) hxy
/-- One cell's block is written to. -/
theorem Cells.put {w w' : World} {A : Nat} {P : Nat → Nat} {F : Nat → Fc} (h : Cells w A P 8 F) {o : Nat} (ho : o < 8) {x : Fc} (ht : CTook w w' (P o) x) : Cells w' A P 8 (fun y => if y = o then x else F y) := by
  refine ⟨h.arr.grown ht.grown (by have := h.above o ho; intro e; cases e; omega), ?_, h.above, h.ne⟩
  intro y hy
  by_cases e : y = o
  · simp only [if_pos e]; rw [e]; exact ht.has
  · simp only [if_neg e]
    exact (h.cell y hy).grown ht.grown (fun e2 => by injection e2 with e3; exact e (h.ne y o hy ho e3))
theorem Cells.below {w w' : World} {A : Nat} {P : Nat → Nat} {k : Nat} {F : Nat → Fc} (h : Cells w A P k F) (hb : Below w.heap.size w w') : Cells w' A P k F :=
  ⟨h.arr.below hb h.arr.lt, fun x hx => (h.cell x hx).below hb (h.cell x hx).lt, h.above, h.ne⟩
theorem Cells.grown {w w' : World} {A : Nat} {P : Nat → Nat} {k : Nat} {F : Nat → Fc} {row : Option Nat} (h : Cells w A P k F) (hg : w.grownBy w' row) (h1 : row ≠ some A) (h2 : ∀ x, x < k → row ≠ some (P x)) : Cells w' A P k F :=
  ⟨h.arr.grown hg (Ne.symm h1), fun x hx => (h.cell x hx).grown hg (Ne.symm (h2 x hx)), h.above, h.ne⟩
theorem Cells.drew {w : World} {A : Nat} {P : Nat → Nat} {k : Nat} {F : Nat → Fc} (h : Cells w A P k F) : Cells w.drew A P k F := ⟨h.arr.drew, fun x hx => (h.cell x hx).drew, h.above, h.ne⟩
theorem Cells.alloc {w : World} {A : Nat} {P : Nat → Nat} {k : Nat} {F : Nat → Fc} (h : Cells w A P k F) (o : Obj) : Cells (w.alloc o) A P k F := ⟨h.arr.alloc o, fun x hx => (h.cell x hx).alloc o, h.above, h.ne⟩
theorem Cells.to {w : World} {A : Nat} {P : Nat → Nat} {k : Nat} {F G : Nat → Fc} (h : Cells w A P k F) (e : ∀ x, x < k → F x = G x) : Cells w A P k G := ⟨h.arr, fun x hx => by rw [← e x hx]; exact h.cell x hx, h.above, h.ne⟩
theorem cellAt_ok {l : List Ev} (hE : ∀ e ∈ l, isEv e = true) (x : Nat) : ∀ m : Nat, m ≤ l.length → FcOk (cellAt l x m) m
  | 0, _ => ⟨by simp [cellAt, Fc.first], by simp [cellAt, Fc.first], by simp [cellAt, Fc.first]⟩
  | m + 1, hm => by
    have ih := cellAt_ok hE x m (by omega)
    have he := isEv_iff.1 (hE _ (List.getElem_mem (show m < l.length by omega)))
    rw [← evAt_lt (show m < l.length by omega)] at he
    have ht : (evAt l m).t.toNat < 6 := by omega
    obtain ⟨i1, i2, i3⟩ := ih
    have hc : ((m + 1 : Nat) : Int) = m + 1 := by omega
    simp only [cellAt]
    rw [hc]
    split
    · unfold Fc.acc Fc.read Fc.write
      (repeat' split) <;> exact ⟨by first | exact i1 | exact ht, by first | exact i2 | exact ht | exact (show 0 < 6 by decide), by simp only; omega⟩
    · exact ⟨i1, i2, by omega⟩
theorem zero_ptrs (w : World) : (zeroValue 114).run Tryd.prog w = .ok (.agg (pA (ptK (fun _ => 0) 0))) w := by kernel_rfl
end Go.Proofs.YtmeidjhojanogaaDoor
