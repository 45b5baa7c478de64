/- How ends are put in order: contracts of cmp.Compare, slices.Compare, cmp.Or at ints; of every.order. -/
import Derived.Test.YtoohconipcleiaaEvE
import Derived.Test.YtoohconipcleiaaMU
import Derived.Sort.Grow
namespace Go.Proofs.Ytoohconipcleiaa
open Go.RowKit

def cmpI (a b : Int) : Int := if a < b then -1 else if b < a then 1 else 0
def cmpL : List Int → List Int → Int
  | [], [] => 0
  | [], _ :: _ => -1
  | _ :: _, [] => 1
  | x :: l, y :: m => if cmpI x y = 0 then cmpL l m else cmpI x y
def orL : List Int → Int
  | [] => 0
  | x :: l => if x = 0 then orL l else x
set_option maxHeartbeats 1000000 in
theorem nan_any (x : Int) (w : World) : Calls Try.prog 132 #[.int .i64 x] w fun e w' => e = .returned (.bool false) ∧ w' = w := by
  have hx : (x != x) = false := by simp
  go_enter Try.func132, Try.ntmps132
  go_wp2
  go_ret
  exact ⟨rfl, rfl⟩
set_option maxHeartbeats 1000000 in
theorem cmpI_any (x y : Int) (w : World) : Calls Try.prog 95 #[.int .i64 x, .int .i64 y] w fun e w' => e = .returned (.int .i64 (cmpI x y)) ∧ w' = w := by
  have HC := Lib.hid (show cmpI x y = if x < y then -1 else if y < x then 1 else 0 from rfl)
  by_cases h1 : x < y
  · have e1 : decide (x < y) = true := decide_eq_true h1
    have HR := Lib.hid (show cmpI x y = -1 by rw [HC.out, if_pos h1])
    clear h1 HC
    go_enter Try.func95, Try.ntmps95
    go_wp2_with fail
    refine (nan_any x w).mono ?_
    rintro r w1 ⟨rfl, rfl⟩
    go_wp2_with fail
    refine (nan_any y _).mono ?_
    rintro r w2 ⟨rfl, rfl⟩
    go_wp2
    go_ret
    rw [HR.out]
    exact ⟨rfl, rfl⟩
  · have e1 : decide (x < y) = false := decide_eq_false h1
    by_cases h2 : y < x
    · have e2 : decide (y < x) = true := decide_eq_true h2
      have e3 : decide (x > y) = true := e2
      have HR := Lib.hid (show cmpI x y = 1 by rw [HC.out, if_neg h1, if_pos h2])
      clear h1 h2 HC
      go_enter Try.func95, Try.ntmps95
      go_wp2_with fail
      refine (nan_any x w).mono ?_
      rintro r w1 ⟨rfl, rfl⟩
      go_wp2_with fail
      refine (nan_any y _).mono ?_
      rintro r w2 ⟨rfl, rfl⟩
      go_wp2
      go_ret
      rw [HR.out]
      exact ⟨rfl, rfl⟩
    · have e2 : decide (y < x) = false := decide_eq_false h2
      have e3 : decide (x > y) = false := e2
      have HR := Lib.hid (show cmpI x y = 0 by rw [HC.out, if_neg h1, if_neg h2])
      clear h1 h2 HC
      go_enter Try.func95, Try.ntmps95
      go_wp2_with fail
      refine (nan_any x w).mono ?_
      rintro r w1 ⟨rfl, rfl⟩
      go_wp2_with fail
      refine (nan_any y _).mono ?_
      rintro r w2 ⟨rfl, rfl⟩
      go_wp2
      go_ret
      rw [HR.out]
      exact ⟨rfl, rfl⟩
set_option maxHeartbeats 4000000 in
theorem compareL_any (l m : List Int) (a b : Option Addr) (c d : Nat) (w : World) (h : IntS w a l) (hm : IntS w b m) :
    Calls Try.prog 94 #[.slice a l.length c, .slice b m.length d] w fun e w' => e = .returned (.int .i64 (cmpL l m)) ∧ w' = w := by
  have hbig := h.big
  have hbig2 := hm.big
  go_enter Try.func94, Try.ntmps94
  go_wp2
  go_loopw [11] (fun i wr => ∃ k : Nat, k ≤ l.length ∧ k ≤ m.length ∧ i = .int .i64 k ∧ Hid (cmpL l m = cmpL (l.drop k) (m.drop k)) ∧ wr = w) (fun i _ => l.length - (intOf i).toNat)
  case atStart => exact ⟨0, Nat.zero_le _, Nat.zero_le _, rfl, Lib.hid rfl, rfl⟩
  case round =>
    obtain ⟨k, hk, hk2, rfl, HC, rfl⟩ := hrel
    by_cases hlt : k < l.length
    · obtain ⟨b1, o1, rfl, hc⟩ := h.at hlt
      have hd : l.drop k = l[k] :: l.drop (k + 1) := List.drop_eq_getElem_cons hlt
      have k0 : (0 : Int) ≤ k := by omega
      have k1 : (k : Int) < l.length := by omega
      generalize l[k] = x at *
      by_cases hlt2 : k < m.length
      · obtain ⟨b2, o2, rfl, hc2⟩ := hm.at hlt2
        have hd2 : m.drop k = m[k] :: m.drop (k + 1) := List.drop_eq_getElem_cons hlt2
        have k2 : (k : Int) < m.length := by omega
        have g1 : decide ((k : Int) ≥ m.length) = false := decide_eq_false (by omega)
        have g2 : decide (m.length ≤ k) = false := decide_eq_false (by omega)
        generalize m[k] = y at *
        have hI := HC.out
        rw [hd, hd2] at hI
        have hstep : cmpL (x :: l.drop (k + 1)) (y :: m.drop (k + 1)) = if cmpI x y = 0 then cmpL (l.drop (k + 1)) (m.drop (k + 1)) else cmpI x y := rfl
        rw [hstep] at hI
        have hcmp := cmpI_any x y
        generalize cmpI x y = C at *
        clear hd hd2 HC hstep
        by_cases h0 : C = 0
        · subst h0
          have HR := Lib.hid (show cmpL l m = cmpL (l.drop (k + 1)) (m.drop (k + 1)) by rw [hI, if_pos rfl])
          clear hI
          go_wp2_with fail
          refine (hcmp _).mono ?_
          rintro r w1 ⟨rfl, rfl⟩
          go_wp2
          go_roundw
          case rel => exact ⟨k + 1, by omega, by omega, by go_num, HR, trivial⟩
          case measure => (simp [intOf]; try omega)
        · have HR := Lib.hid (show cmpL l m = C by rw [hI, if_neg h0])
          have e1 : (C != 0) = true := bne_iff_ne.2 h0
          have e2 : (C == 0) = false := beq_eq_false_iff_ne.2 h0
          have e3 : decide (C = 0) = false := decide_eq_false h0
          clear hI h0
          go_wp2_with fail
          refine (hcmp _).mono ?_
          rintro r w1 ⟨rfl, rfl⟩
          go_wp2
          go_ret
          rw [HR.out]
          exact ⟨rfl, rfl⟩
      · obtain rfl : k = m.length := by omega
        have g1 : decide ((m.length : Int) ≥ m.length) = true := decide_eq_true (by omega)
        have HR := Lib.hid (show cmpL l m = 1 by rw [HC.out, hd, List.drop_length]; rfl)
        clear HC hd
        go_wp2
        go_ret
        rw [HR.out]
        exact ⟨rfl, rfl⟩
    · obtain rfl : k = l.length := by omega
      by_cases hlt2 : l.length < m.length
      · have g1 : decide ((l.length : Int) < m.length) = true := decide_eq_true (by omega)
        have g2 : decide (l.length < m.length) = true := decide_eq_true hlt2
        have HR := Lib.hid (show cmpL l m = -1 by
          rw [HC.out, List.drop_length, List.drop_eq_getElem_cons hlt2]; rfl)
        clear HC hlt2
        go_wp2
        go_ret
        rw [HR.out]
        exact ⟨rfl, rfl⟩
      · have g1 : decide ((l.length : Int) < m.length) = false := decide_eq_false (by omega)
        have g2 : decide (l.length < m.length) = false := decide_eq_false hlt2
        have HR := Lib.hid (show cmpL l m = 0 by
          rw [HC.out, List.drop_length, List.drop_eq_nil_of_le (by omega)]; rfl)
        clear HC hlt2
        go_wp2
        go_ret
        rw [HR.out]
        exact ⟨rfl, rfl⟩
set_option maxHeartbeats 4000000 in
theorem orL_any (l : List Int) (a : Option Addr) (c : Nat) (w : World) (h : IntS w a l) :
    Calls Try.prog 93 #[.slice a l.length c] w fun e w' => e = .returned (.int .i64 (orL l)) ∧ w' = w := by
  have hbig := h.big
  go_enter Try.func93, Try.ntmps93
  go_wp2
  go_loopw [8] (fun i wr => ∃ k : Nat, k ≤ l.length ∧ i = .int .i64 k ∧ Hid (orL l = orL (l.drop k)) ∧ wr = w) (fun i _ => l.length - (intOf i).toNat)
  case atStart => exact ⟨0, Nat.zero_le _, rfl, Lib.hid rfl, rfl⟩
  case round =>
    obtain ⟨k, hk, rfl, HC, rfl⟩ := hrel
    by_cases hlt : k < l.length
    · obtain ⟨b1, o1, rfl, hc⟩ := h.at hlt
      have hd : l.drop k = l[k] :: l.drop (k + 1) := List.drop_eq_getElem_cons hlt
      have k0 : (0 : Int) ≤ k := by omega
      have k1 : (k : Int) < l.length := by omega
      generalize l[k] = x at *
      have hI := HC.out
      rw [hd] at hI
      have hstep : orL (x :: l.drop (k + 1)) = if x = 0 then orL (l.drop (k + 1)) else x := rfl
      rw [hstep] at hI
      clear hd HC hstep
      by_cases h0 : x = 0
      · subst h0
        have HR := Lib.hid (show orL l = orL (l.drop (k + 1)) by rw [hI, if_pos rfl])
        clear hI
        go_wp2
        go_roundw
        case rel => exact ⟨k + 1, by omega, by go_num, HR, trivial⟩
        case measure => (simp [intOf]; try omega)
      · have HR := Lib.hid (show orL l = x by rw [hI, if_neg h0])
        have e1 : (x != 0) = true := bne_iff_ne.2 h0
        have e2 : (x == 0) = false := beq_eq_false_iff_ne.2 h0
        have e3 : decide (x = 0) = false := decide_eq_false h0
        clear hI h0
        go_wp2
        go_ret
        rw [HR.out]
        exact ⟨rfl, rfl⟩
    · obtain rfl : k = l.length := by omega
      have HR := Lib.hid (show orL l = 0 by rw [HC.out, List.drop_length]; rfl)
      clear HC
      go_wp2
      go_ret
      rw [HR.out]
      exact ⟨rfl, rfl⟩
def lastI1 (d : Bool) : Int := if d = true then 1 else 0
set_option maxHeartbeats 1000000 in
theorem last_any1 (e : EnD) (w : World) : Calls Try.prog 92 #[.agg (enE e)] w fun r w' => r = .returned (.int .i64 (lastI1 e.2.1)) ∧ w' = w.alloc (.cells (enE e) endT) := by
  have h18 : (enE e)[18]? = some (.bool e.2.1) := endC_get e.1 _ _ (by omega)
  have HL := Lib.hid (show lastI1 e.2.1 = if e.2.1 = true then 1 else 0 from rfl)
  generalize lastI1 e.2.1 = L at *
  generalize e.2.1 = D at *
  generalize enE e = Z at *
  go_enter Try.func92, Try.ntmps92
  go_upto_region 1 with fail
  obtain ⟨W, hW⟩ : ∃ W, w.alloc (.cells Z endT) = W := ⟨_, rfl⟩
  have hS : Has W w.heap.size Z endT := by rw [← hW]; exact Has.new w _ _
  rw [hW]
  have c18 := hS.cell h18
  cases D
  · go_wp2
    go_ret
    first | exact ⟨by rw [HL.out]; rfl, hW.symm⟩ | exact ⟨by rw [HL.out]; rfl, rfl⟩
  · go_wp2
    go_ret
    first | exact ⟨by rw [HL.out]; rfl, hW.symm⟩ | exact ⟨by rw [HL.out]; rfl, rfl⟩
/-- A row loaded whole, in a region of quiet operations. -/
theorem quiet_load_row {P : Program} {o : Oper} {a : Act} {C : World → Prop} {K : Act → Prop} (ty : TypeId) (x : Operand) (ho : o.op = .load ty x) (g : Nat) (hx : a.eval x = .pointer (some ⟨g, 0, none⟩)) (cs : Array Value) (T : TypeId) (hg : ∀ w, C w → Has w g cs T) (d : TypeDesc)
    (hu : P.underlying ty = some d) (hd : (match d with | .struct _ | .array _ _ => true | _ => false) = true) (hi : (P.info? ty).map (·.size) = some cs.size) (h : K (a.put o.dst (.agg cs))) : o.quiet P a C K := by
  refine ⟨.agg cs, fun w hw => ?_, h⟩
  unfold Oper.quietAt execOp
  simp only [ho, hx, Instr.loadAt, Instr.sureAddr, Sem.run_bind, Sem.run_pure, Result.andThen_ok, run_loadVar_row w g T ty cs (0, 0) d (hg w hw).out hu hd hi]
  exact ⟨rfl, rfl⟩
/-- The worlds that come out of w by drawing and by new blocks. -/
structure Gro (w : World) where
  wd : World
  is : ∃ n os, wd = Go.Sort.grow (w.drewN n) os
instance (w : World) : Inhabited (Gro w) := ⟨⟨w, 0, #[], by rw [Go.Sort.grow_empty]; rfl⟩⟩
theorem Gro.below {w : World} (p : Gro w) : Below w.heap.size w p.wd := by
  obtain ⟨n, os, e⟩ := p.is
  rw [e]
  exact ⟨rfl, rfl, rfl, by simp [Go.Sort.grow, World.drewN], fun k hk => by simp only [Go.Sort.grow, World.drewN]; rw [Array.getElem?_append_left hk]⟩
theorem Gro.on {w : World} (p : Gro w) {w' : World} (h : ∃ n os, w' = Go.Sort.grow (p.wd.drewN n) os) : ∃ q : Gro w, w' = q.wd := by
  obtain ⟨n, os, e⟩ := p.is
  obtain ⟨m, os', e'⟩ := h
  refine ⟨⟨w', n + m, os ++ os', ?_⟩, rfl⟩
  rw [e', e]
  simp [Go.Sort.grow, World.drewN, Nat.add_assoc]
def memL (e : EnD) : List Int := (List.range 8).map fun i => e.1.mem i
def volL (e : EnD) : List Int := (List.range 4).map fun i => e.1.vols i
def hasL (e : EnD) : List Int := (List.range 6).map fun i => e.1.has i
def orderP (x y : EnD) : Int := orL [cmpL (memL x) (memL y), cmpL (volL x) (volL y), cmpL (hasL x) (hasL y), cmpI (lastI1 x.2.1) (lastI1 y.2.1)]
section
variable {w : World} {b : Nat} {e : EnD} {T : TypeId}
theorem enE_mem (h : Has w b (enE e) T) : IntS w (some ⟨b, 0, none⟩) (memL e) :=
  ⟨by simp [memL], .inr ⟨b, 0, rfl, fun i hi => by
    have hi' : i < 8 := by simpa [memL] using hi
    rw [h.cell (i := 0 + i) (by rw [Nat.zero_add]; exact endC_get e.1 _ _ (by omega))]
    simp [psF, hi', memL]⟩⟩
theorem enE_vol (h : Has w b (enE e) T) : IntS w (some ⟨b, 8, none⟩) (volL e) :=
  ⟨by simp [volL], .inr ⟨b, 8, rfl, fun i hi => by
    have hi' : i < 4 := by simpa [volL] using hi
    rw [h.cell (i := 8 + i) (endC_get e.1 _ _ (by omega))]
    unfold psF
    rw [if_neg (by omega), if_pos (by omega), Nat.add_sub_cancel_left]
    simp [volL]⟩⟩
theorem enE_has (h : Has w b (enE e) T) : IntS w (some ⟨b, 12, none⟩) (hasL e) :=
  ⟨by simp [hasL], .inr ⟨b, 12, rfl, fun i hi => by
    have hi' : i < 6 := by simpa [hasL] using hi
    rw [h.cell (i := 12 + i) (endC_get e.1 _ _ (by omega))]
    unfold psF
    rw [if_neg (by omega), if_neg (by omega), if_pos (by omega), Nat.add_sub_cancel_left]
    simp [hasL]⟩⟩
end
set_option maxRecDepth 100000 in
set_option maxHeartbeats 8000000 in
theorem order_any (x y : EnD) (w : World) : Calls Try.prog 59 #[.agg (enE x), .agg (enE y)] w fun r w' => r = .returned (.int .i64 (orderP x y)) ∧ ∃ n os, w' = Go.Sort.grow (w.drewN n) os := by
  have hsx := enE_size x
  have hsy := enE_size y
  have hO := Lib.hid (show orderP x y = orL [cmpL (memL x) (memL y), cmpL (volL x) (volL y), cmpL (hasL x) (hasL y), cmpI (lastI1 x.2.1) (lastI1 y.2.1)] from rfl)
  have l1 : ∀ e, (memL e).length = 8 := fun e => by simp [memL]
  have l2 : ∀ e, (volL e).length = 4 := fun e => by simp [volL]
  have l3 : ∀ e, (hasL e).length = 6 := fun e => by simp [hasL]
  go_enter Try.func59, Try.ntmps59
  go_upto_region 2 with fail
  obtain ⟨W, hW⟩ : ∃ W, (w.alloc (.cells (enE x) endT)).alloc (.cells (enE y) endT) = W := ⟨_, rfl⟩
  rw [hW]
  have hX : Has W w.heap.size (enE x) endT := by rw [← hW]; exact (Has.new w _ _).alloc _
  have hY : Has W (w.heap.size + 1) (enE y) endT := by rw [← hW]; exact (Has.new _ _ _).at (by simp)
  have hWg : Hid (∃ n os, W = Go.Sort.grow (w.drewN n) os) := Lib.hid ⟨0, _, by rw [← hW, Go.Sort.alloc_eq_grow, Go.Sort.alloc_eq_grow, Go.Sort.grow_grow]; rfl⟩
  clear hW
  have C1 := Lib.hid fun p : Gro W => (compareL_any (memL x) (memL y) (some ⟨w.heap.size, 0, none⟩) (some ⟨w.heap.size + 1, 0, none⟩) 8 8 p.wd (enE_mem (hX.below p.below hX.lt)) (enE_mem (hY.below p.below hY.lt))).mono (R' := fun e w' => e = .returned (.int .i64 (cmpL (memL x) (memL y))) ∧ ∃ q : Gro W, w' = q.wd) fun _ _ ⟨he, hw⟩ => ⟨he, ⟨p, hw⟩⟩
  have C2 := Lib.hid fun p : Gro W => (compareL_any (volL x) (volL y) (some ⟨w.heap.size, 8, none⟩) (some ⟨w.heap.size + 1, 8, none⟩) 4 4 p.wd (enE_vol (hX.below p.below hX.lt)) (enE_vol (hY.below p.below hY.lt))).mono (R' := fun e w' => e = .returned (.int .i64 (cmpL (volL x) (volL y))) ∧ ∃ q : Gro W, w' = q.wd) fun _ _ ⟨he, hw⟩ => ⟨he, ⟨p, hw⟩⟩
  have C3 := Lib.hid fun p : Gro W => (compareL_any (hasL x) (hasL y) (some ⟨w.heap.size, 12, none⟩) (some ⟨w.heap.size + 1, 12, none⟩) 6 6 p.wd (enE_has (hX.below p.below hX.lt)) (enE_has (hY.below p.below hY.lt))).mono (R' := fun e w' => e = .returned (.int .i64 (cmpL (hasL x) (hasL y))) ∧ ∃ q : Gro W, w' = q.wd) fun _ _ ⟨he, hw⟩ => ⟨he, ⟨p, hw⟩⟩
  rw [l1, l1] at C1
  rw [l2, l2] at C2
  rw [l3, l3] at C3
  have C4 := Lib.hid fun p : Gro W => (last_any1 x p.wd).mono (R' := fun e w' => e = .returned (.int .i64 (lastI1 x.2.1)) ∧ ∃ q : Gro W, w' = q.wd) fun _ _ ⟨he, hw⟩ => ⟨he, p.on ⟨0, #[.cells (enE x) endT], hw.trans (by rw [Go.Sort.alloc_eq_grow]; rfl)⟩⟩
  have C5 := Lib.hid fun p : Gro W => (last_any1 y p.wd).mono (R' := fun e w' => e = .returned (.int .i64 (lastI1 y.2.1)) ∧ ∃ q : Gro W, w' = q.wd) fun _ _ ⟨he, hw⟩ => ⟨he, p.on ⟨0, #[.cells (enE y) endT], hw.trans (by rw [Go.Sort.alloc_eq_grow]; rfl)⟩⟩
  have C6 := Lib.hid fun p : Gro W => (cmpI_any (lastI1 x.2.1) (lastI1 y.2.1) p.wd).mono (R' := fun e w' => e = .returned (.int .i64 (cmpI (lastI1 x.2.1) (lastI1 y.2.1))) ∧ ∃ q : Gro W, w' = q.wd) fun _ _ ⟨he, hw⟩ => ⟨he, ⟨p, hw⟩⟩
  have hX2 : ∀ p : Gro W, Has p.wd w.heap.size (enE x) endT := fun p => hX.below p.below hX.lt
  have hY2 : ∀ p : Gro W, Has p.wd (w.heap.size + 1) (enE y) endT := fun p => hY.below p.below hY.lt
  have hor := fun (w' : World) (a : Option Addr) (c : Nat) => orL_any [cmpL (memL x) (memL y), cmpL (volL x) (volL y), cmpL (hasL x) (hasL y), cmpI (lastI1 x.2.1) (lastI1 y.2.1)] a c w'
  rw [← hO.out] at hor
  generalize cmpL (memL x) (memL y) = A1 at *
  generalize cmpL (volL x) (volL y) = A2 at *
  generalize cmpL (hasL x) (hasL y) = A3 at *
  generalize cmpI (lastI1 x.2.1) (lastI1 y.2.1) = A4 at *
  generalize lastI1 x.2.1 = L1 at *
  generalize lastI1 y.2.1 = L2 at *
  obtain ⟨OO, hOO⟩ : ∃ OO, orderP x y = OO := ⟨_, rfl⟩
  rw [hOO] at hor
  have HOO := Lib.hid hOO
  clear hOO
  generalize enE x = X at *
  generalize enE y = Y at *
  clear hX hY hO l1 l2 l3
  refine wp_region_any (by kernel_rfl) (wpAny_tail 22 (by kernel_rfl) (C := fun w' => ∃ p : Gro W, w' = p.wd) ⟨⟨_, 1, #[], by rw [Go.Sort.grow_empty]; rfl⟩, rfl⟩ ?_)
  simp only [List.take_succ_cons, List.take_zero, List.drop_succ_cons, List.drop_zero]
  repeat (with_reducible refine wpQuiet_step (fun K hK => ?_); go_simp; first | (with_reducible refine hK _ ?_) | (refine ⟨_, C1.out, ?_⟩; with_reducible refine hK _ ?_) | (refine ⟨_, C2.out, ?_⟩; with_reducible refine hK _ ?_) | (refine ⟨_, C3.out, ?_⟩; with_reducible refine hK _ ?_) | (refine ⟨_, C4.out, ?_⟩; with_reducible refine hK _ ?_) | (refine ⟨_, C5.out, ?_⟩; with_reducible refine hK _ ?_) | (refine ⟨_, C6.out, ?_⟩; with_reducible refine hK _ ?_); clear hK K)
  with_reducible refine wpQuiet_step (fun K hK => ?_)
  refine asked rfl ?_
  refine quiet_load_row endT _ rfl w.heap.size rfl X endT (by rintro _ ⟨p, rfl⟩; exact hX2 p) _ Try.underlying29 rfl (by rw [hsx]; rfl) ?_
  simp [Act.put]
  with_reducible refine hK _ ?_
  clear hK K
  repeat (with_reducible refine wpQuiet_step (fun K hK => ?_); go_simp; first | (with_reducible refine hK _ ?_) | (refine ⟨_, C1.out, ?_⟩; with_reducible refine hK _ ?_) | (refine ⟨_, C2.out, ?_⟩; with_reducible refine hK _ ?_) | (refine ⟨_, C3.out, ?_⟩; with_reducible refine hK _ ?_) | (refine ⟨_, C4.out, ?_⟩; with_reducible refine hK _ ?_) | (refine ⟨_, C5.out, ?_⟩; with_reducible refine hK _ ?_) | (refine ⟨_, C6.out, ?_⟩; with_reducible refine hK _ ?_); clear hK K)
  with_reducible refine wpQuiet_step (fun K hK => ?_)
  refine asked rfl ?_
  refine quiet_load_row endT _ rfl (w.heap.size + 1) rfl Y endT (by rintro _ ⟨p, rfl⟩; exact hY2 p) _ Try.underlying29 rfl (by rw [hsy]; rfl) ?_
  simp [Act.put]
  with_reducible refine hK _ ?_
  clear hK K
  repeat (with_reducible refine wpQuiet_step (fun K hK => ?_); go_simp; first | (with_reducible refine hK _ ?_) | (refine ⟨_, C1.out, ?_⟩; with_reducible refine hK _ ?_) | (refine ⟨_, C2.out, ?_⟩; with_reducible refine hK _ ?_) | (refine ⟨_, C3.out, ?_⟩; with_reducible refine hK _ ?_) | (refine ⟨_, C4.out, ?_⟩; with_reducible refine hK _ ?_) | (refine ⟨_, C5.out, ?_⟩; with_reducible refine hK _ ?_) | (refine ⟨_, C6.out, ?_⟩; with_reducible refine hK _ ?_); clear hK K)
  with_reducible refine wpQuiet_nil ?_
  rintro _ ⟨p, rfl⟩
  have hsp := p.below.size
  have hI4 : IntS (p.wd.alloc (.cells #[.int .i64 A1, .int .i64 A2, .int .i64 A3, .int .i64 A4] 3)) (some ⟨p.wd.heap.size, 0, none⟩) [A1, A2, A3, A4] := intS_full (l := [A1, A2, A3, A4]) (Has.new p.wd _ _) rfl (by simp)
  have hor2 := hor _ _ 4 hI4
  have hpg : Hid (∃ n os, p.wd.alloc (.cells #[.int .i64 A1, .int .i64 A2, .int .i64 A3, .int .i64 A4] 3) = Go.Sort.grow (w.drewN n) os) := Lib.hid (by
    obtain ⟨n, os, e⟩ := p.is
    obtain ⟨m, os', e'⟩ := hWg.out
    refine ⟨m + n, os' ++ os ++ #[.cells #[.int .i64 A1, .int .i64 A2, .int .i64 A3, .int .i64 A4] 3], ?_⟩
    rw [Go.Sort.alloc_eq_grow, e, e']
    simp [Go.Sort.grow, World.drewN, Nat.add_assoc, Array.append_assoc])
  clear hor hI4 hWg C1 C2 C3 C4 C5 C6 hX2 hY2
  go_wp2_with fail
  refine hor2.mono ?_
  rintro r w2 ⟨rfl, hw2⟩
  rw [hw2]
  clear hw2 hor2
  generalize p.wd.alloc (.cells #[.int .i64 A1, .int .i64 A2, .int .i64 A3, .int .i64 A4] 3) = W2 at *
  go_wp2
  go_ret
  rw [HOO.out]
  exact ⟨rfl, hpg.out⟩
/-! The order is a strict weak one. -/
theorem cmpI_lt {a b : Int} : cmpI a b < 0 ↔ a < b := by
  unfold cmpI
  by_cases h : a < b
  · simp [h]
  · by_cases h2 : b < a <;> simp [h, h2]
theorem cmpI_zero {a b : Int} : cmpI a b = 0 ↔ a = b := by
  unfold cmpI
  by_cases h : a < b
  · simp [h]; omega
  · by_cases h2 : b < a
    · simp [h, h2]; omega
    · simp [h, h2]; omega
/-- A key: what is compared, all in one row. -/
def keyE (e : EnD) : List Int := memL e ++ volL e ++ hasL e ++ [lastI1 e.2.1]
theorem cmpL_append : ∀ (l m : List Int), l.length = m.length → ∀ (l' m' : List Int), cmpL (l ++ l') (m ++ m') = if cmpL l m = 0 then cmpL l' m' else cmpL l m
  | [], [], _, l', m' => rfl
  | x :: l, y :: m, h, l', m' => by
    show (if cmpI x y = 0 then cmpL (l ++ l') (m ++ m') else cmpI x y) = if (if cmpI x y = 0 then cmpL l m else cmpI x y) = 0 then cmpL l' m' else (if cmpI x y = 0 then cmpL l m else cmpI x y)
    by_cases c : cmpI x y = 0
    · rw [if_pos c, if_pos c]; exact cmpL_append l m (by simpa using h) l' m'
    · rw [if_neg c, if_neg c, if_neg c]
  | [], _ :: _, h, _, _ => by simp at h
  | _ :: _, [], h, _, _ => by simp at h
theorem orderP_key (x y : EnD) : orderP x y = cmpL (keyE x) (keyE y) := by
  have h1 : (memL x ++ volL x ++ hasL x).length = (memL y ++ volL y ++ hasL y).length := by simp [memL, volL, hasL]
  have h2 : (memL x ++ volL x).length = (memL y ++ volL y).length := by simp [memL, volL]
  have h3 : (memL x).length = (memL y).length := by simp [memL]
  unfold keyE
  rw [cmpL_append _ _ h1, cmpL_append _ _ h2, cmpL_append _ _ h3]
  have h4 : cmpL [lastI1 x.2.1] [lastI1 y.2.1] = cmpI (lastI1 x.2.1) (lastI1 y.2.1) := by
    show (if cmpI _ _ = 0 then (0 : Int) else cmpI _ _) = _
    split
    · rename_i h; exact h.symm
    · rfl
  rw [h4]
  show (if cmpL (memL x) (memL y) = 0 then (if cmpL (volL x) (volL y) = 0 then (if cmpL (hasL x) (hasL y) = 0 then (if cmpI (lastI1 x.2.1) (lastI1 y.2.1) = 0 then 0 else cmpI (lastI1 x.2.1) (lastI1 y.2.1)) else cmpL (hasL x) (hasL y)) else cmpL (volL x) (volL y)) else cmpL (memL x) (memL y)) = _
  by_cases a1 : cmpL (memL x) (memL y) = 0
  · by_cases a2 : cmpL (volL x) (volL y) = 0
    · by_cases a3 : cmpL (hasL x) (hasL y) = 0
      · by_cases a4 : cmpI (lastI1 x.2.1) (lastI1 y.2.1) = 0 <;> simp [a1, a2, a3, a4]
      · simp [a1, a2, a3]
    · simp [a1, a2]
  · simp [a1]
theorem cmpL_self : ∀ l, cmpL l l = 0
  | [] => rfl
  | x :: l => by
    show (if cmpI x x = 0 then cmpL l l else cmpI x x) = 0
    rw [if_pos (cmpI_zero.2 rfl), cmpL_self l]
theorem cmpL_cons {x y : Int} {l m : List Int} : cmpL (x :: l) (y :: m) < 0 ↔ x < y ∨ x = y ∧ cmpL l m < 0 := by
  show (if cmpI x y = 0 then cmpL l m else cmpI x y) < 0 ↔ _
  by_cases c : x = y
  · rw [if_pos (cmpI_zero.2 c)]
    exact ⟨fun h => .inr ⟨c, h⟩, fun h => h.elim (fun h => by omega) (fun h => h.2)⟩
  · rw [if_neg (fun h => c (cmpI_zero.1 h)), cmpI_lt]
    exact ⟨.inl, fun h => h.elim id (fun h => absurd h.1 c)⟩
theorem cmpL_trans : ∀ (l m n : List Int), cmpL l m < 0 → cmpL m n < 0 → cmpL l n < 0
  | [], [], _, h, _ => absurd h (by decide)
  | _ :: _, [], _, h, _ => absurd h (by show ¬ ((1 : Int) < 0); decide)
  | _, _ :: _, [], _, h => absurd h (by show ¬ ((1 : Int) < 0); decide)
  | [], _ :: _, _ :: _, _, _ => by show (-1 : Int) < 0; decide
  | x :: l, y :: m, z :: n, h1, h2 => by
    rw [cmpL_cons] at *
    rcases h1 with h1 | ⟨rfl, h1⟩
    · rcases h2 with h2 | ⟨rfl, h2⟩
      · exact .inl (by omega)
      · exact .inl h1
    · rcases h2 with h2 | ⟨rfl, h2⟩
      · exact .inl h2
      · exact .inr ⟨rfl, cmpL_trans l m n h1 h2⟩
theorem cmpL_ntrans : ∀ (l m n : List Int), ¬ cmpL l m < 0 → ¬ cmpL m n < 0 → ¬ cmpL l n < 0
  | [], [], n, _, h => h
  | [], _ :: _, _, h, _ => absurd (by show (-1 : Int) < 0; decide) h
  | _ :: _, _, [], _, _ => by show ¬ ((1 : Int) < 0); decide
  | _ :: _, [], _ :: _, _, h => absurd (by show (-1 : Int) < 0; decide) h
  | x :: l, y :: m, z :: n, h1, h2 => by
    rw [cmpL_cons] at *
    intro h
    rcases h with h | ⟨rfl, h⟩
    · have : ¬ x < y := fun h => h1 (.inl h)
      have : ¬ y < z := fun h => h2 (.inl h)
      omega
    · have a1 : ¬ x < y := fun h => h1 (.inl h)
      have a2 : ¬ y < x := fun h => h2 (.inl h)
      obtain rfl : x = y := by omega
      exact cmpL_ntrans l m n (fun h => h1 (.inr ⟨rfl, h⟩)) (fun h => h2 (.inr ⟨rfl, h⟩)) h
end Go.Proofs.Ytoohconipcleiaa
