/- Contract of every.Races: a search for a race, level by level. -/
import Derived.Test.YtoohconipcleiaaEvM
import Derived.Test.YtoohconipcleiaaEvA
import Derived.Test.YtoohconipcleiaaEvF
import Derived.Test.YtoohconipcleiaaCln
import Derived.Test.YtoohconipcleiaaSec
namespace Go.Proofs.Ytoohconipcleiaa
open Go.RowKit

theorem infoNd : (Try.prog.info? ndT).map (fun i => (i.zero, i.size, i.bytes)) = some (some (.agg (psR PS.zero [.slice none 0 0, .slice none 0 0])), 39, 296) := by kernel_rfl
theorem psR_38 (s : PS) (x y v : Value) : (psR s [x, y]).setIfInBounds 38 v = psR s [x, v] := by
  have h : ∀ u : Value, psR s [x, u] = ((psC s).push x).push u := fun u => by apply Array.toList_inj.1; simp [psR]
  rw [h, h]
  have hs : ((psC s).push x).size = 38 := by simp [psC_size]
  apply Array.ext_getElem?
  intro j
  rw [Array.getElem?_setIfInBounds]
  by_cases e : 38 = j
  · subst e
    rw [if_pos rfl, if_pos (by rw [Array.size_push, hs]; decide), Array.getElem?_push, if_pos hs.symm]
  · rw [if_neg e]
    have e' : ¬ j = 38 := fun h => e h.symm
    simp only [Array.getElem?_push (xs := (psC s).push x), hs, if_neg e']
theorem fill_front {A Z : Array Value} (h : Z.size ≤ A.size) : Array.foldl (fun cs x => cs.setIfInBounds x.snd x.fst) A Z.zipIdx 0 Z.size = Z ++ A.extract Z.size A.size := by
  have h1 : Array.foldl (fun cs x => cs.setIfInBounds x.snd x.fst) A Z.zipIdx 0 Z.size = (Z.toList.zipIdx 0).foldl (fun cs x => cs.setIfInBounds x.snd x.fst) A := by
    have := Array.foldl_toList (fun (cs : Array Value) (x : Value × Nat) => cs.setIfInBounds x.snd x.fst) (init := A) (xs := Z.zipIdx)
    rw [Array.toList_zipIdx, Array.size_zipIdx] at this
    exact this.symm
  rw [h1]
  apply Array.ext_getElem?
  intro j
  rw [fold_set Z.toList 0 A (by rw [Array.length_toList]; omega) j, Array.length_toList]
  by_cases c : 0 ≤ j ∧ j < 0 + Z.size
  · rw [if_pos c, Array.getElem?_append_left (by omega)]; simp
  · rw [if_neg c, Array.getElem?_append_right (by omega), Array.getElem?_extract]
    by_cases d : j < A.size
    · rw [if_pos (by omega), show Z.size + (j - Z.size) = j by omega]
    · rw [if_neg (by omega), Array.getElem?_eq_none (by omega)]
abbrev zeroN : Array Value := #[.int .i64 0, .int .i64 0, .int .i64 0, .int .i64 0, .int .i64 0, .int .i64 0, .int .i64 0, .int .i64 0, .int .i64 0, .int .i64 0, .int .i64 0, .int .i64 0, .int .i64 0, .int .i64 0, .int .i64 0, .int .i64 0, .int .i64 0, .int .i64 0, .bool false, .bool false,
  .int .i64 0, .int .i64 0, .int .i64 0, .int .i64 0, .int .i64 0, .int .i64 0, .bool false, .bool false, .bool false, .bool false, .bool false, .bool false, .int .i64 0, .int .i64 0, .int .i64 0, .int .i64 0, .int .i64 0, .slice none 0 0, .slice none 0 0]
theorem fill37 {Z : Array Value} (h : Z.size = 37) : Array.foldl (fun cs x => cs.setIfInBounds x.snd x.fst) zeroN Z.zipIdx 0 37 = Z ++ #[.slice none 0 0, .slice none 0 0] := by
  have := fill_front (A := zeroN) (Z := Z) (by rw [h]; decide)
  rw [h] at this
  exact this
theorem fill39 {Z : Array Value} (h : Z.size = 39) : Array.foldl (fun cs x => cs.setIfInBounds x.snd x.fst) zeroN Z.zipIdx 0 39 = Z := by
  have := fill_row (A := zeroN) (Z := Z) (by rw [h]; rfl)
  rwa [h] at this
theorem psR_37 (s : PS) (x y v : Value) : (psR s [x, y]).setIfInBounds 37 v = psR s [v, y] := by
  have h : ∀ u : Value, psR s [u, y] = ((psC s).push u).push y := fun u => by apply Array.toList_inj.1; simp [psR]
  rw [h, h]
  have hs : (psC s).size = 37 := psC_size s
  apply Array.ext_getElem?
  intro j
  rw [Array.getElem?_setIfInBounds]
  by_cases e : 37 = j
  · subst e
    rw [if_pos rfl, if_pos (by rw [Array.size_push, Array.size_push, hs]; decide), Array.getElem?_push, Array.size_push, if_neg (by omega), Array.getElem?_push, if_pos hs.symm]
  · rw [if_neg e]
    have e' : ¬ j = 37 := fun h => e h.symm
    simp only [Array.getElem?_push, Array.size_push, hs, if_neg e']
theorem psR_37at (s : PS) (x y : Value) : (psR s [x, y])[37]? = some x := by
  unfold psR
  rw [Array.getElem?_append_right (by rw [psC_size]; decide), psC_size]
  rfl
theorem psR_38at (s : PS) (x y : Value) : (psR s [x, y])[38]? = some y := by
  unfold psR
  rw [Array.getElem?_append_right (by rw [psC_size]; decide), psC_size]
  rfl
theorem psR_range {w : World} {b : Nat} {s : PS} {R : List Value} {T : TypeId} (h : Has w b (psR s R) T) : w.rangeAt b 0 (psC s).toList := fun j v hv => by
  have hj : j < 37 := by
    have := (List.getElem?_eq_some_iff.1 hv).1
    rwa [Array.length_toList, psC_size] at this
  rw [Nat.zero_add]
  refine h.cell ?_
  rw [psR_get s R hj]
  rw [Array.getElem?_toList, psC_get s hj] at hv
  exact hv
/-- What Races answers. -/
def RacesP (p : List (List Ev)) (w : World) (r : Ending) (w' : World) : Prop :=
  Below w.heap.size w w' ∧ ((chkE p ≠ 0 ∧ r = .returned (.tuple #[.bool false, .slice none 0 0, .int .i64 (chkE p)])) ∨ (chkE p = 0 ∧
    ((∃ way a c, WayR p way ∧ way.length ≤ c ∧ r = .returned (.tuple #[.bool true, .slice a way.length c, .int .i64 0]) ∧ IntS w' a way) ∨
     ((∀ picks, raceL (runP p picks).2 = []) ∧ r = .returned (.tuple #[.bool false, .slice none 0 0, .int .i64 0])))))
/-- A row of ints that the call made since it had B blocks, in a block of ints. -/
def RowT (B : Nat) (l : List Int) (v : Value) (w : World) : Prop := ∃ b c cs fr, v = .slice (some ⟨b, 0, none⟩) l.length c ∧ l.length ≤ c ∧ B ≤ b ∧ w.heap[b]? = some (.cells cs 3 fr) ∧ IntS w (some ⟨b, 0, none⟩) l
theorem RowT.on {B : Nat} {l : List Int} {v : Value} {w w' : World} (h : RowT B l v w) (k : Below w.heap.size w w') : RowT B l v w' := by
  obtain ⟨b, c, cs, fr, h1, h2, h3, h4, h5⟩ := h
  exact ⟨b, c, cs, fr, h1, h2, h3, by rw [k.block b (Array.getElem?_eq_some_iff.1 h4).1]; exact h4, h5.below k⟩
theorem RowT.of {w0 w w' : World} {base : Nat} {l : List Int} {v v' : Value} {n : Nat} {xs : List Value} (hA : Appended w w' base 3 1 v v' n xs) (hx : xs = ints l) (hn : n = l.length) (hne : l ≠ []) (hB : w0.heap.size ≤ base) (hl : l.length < 4611686018427387904) : RowT w0.heap.size l v' w' := by
  subst hx hn
  have h1 := hA.own
  rcases h1.2 with ⟨_, h0⟩ | ⟨g, cap, cur, rfl, hg, hh, hnc, _⟩
  · exact absurd (List.eq_nil_of_length_eq_zero h0) hne
  · obtain ⟨a, c, e, hI, _⟩ := intS_own h1 hl
    cases e
    exact ⟨g, _, cur, _, rfl, hnc, Nat.le_trans hB hg, hh, hI⟩
theorem RowT.far {B : Nat} {l : List Int} {v : Value} {w : World} (h : RowT B l v w) {b : Nat} {cs : Array Value} (hb : Has w b cs ndT) : ∃ b' c, v = .slice (some ⟨b', 0, none⟩) l.length c ∧ l.length ≤ c ∧ B ≤ b' ∧ b' ≠ b ∧ IntS w (some ⟨b', 0, none⟩) l := by
  obtain ⟨b', c, cs', fr, h1, h2, h3, h4, h5⟩ := h
  refine ⟨b', c, h1, h2, h3, fun e => ?_, h5⟩
  subst e
  rw [hb.out] at h4
  simp only [Option.some.injEq, Obj.cells.injEq] at h4
  exact absurd h4.2.1 (by decide)
/-- A row of events that the call made since it had B blocks. -/
def CloE (B : Nat) (l : List Ev) (v : Value) (w : World) : Prop := ∃ base, B ≤ base ∧ base ≤ w.heap.size ∧ w.ownsRow base 36 3 v l.length (evL l)
def RowE (B : Nat) (l : List Ev) (v : Value) (w : World) : Prop := ∃ b c, v = .slice (some ⟨b, 0, none⟩) l.length c ∧ B ≤ b ∧ EvS w (some ⟨b, 0, none⟩) l
theorem CloE.on {B : Nat} {l : List Ev} {v : Value} {w w' : World} (h : CloE B l v w) (k : Below w.heap.size w w') : CloE B l v w' := by
  obtain ⟨b, h1, h2, h3⟩ := h
  exact ⟨b, h1, Nat.le_trans h2 k.size, own_below h3 k⟩
theorem RowE.on {B : Nat} {l : List Ev} {v : Value} {w w' : World} (h : RowE B l v w) (k : Below w.heap.size w w') : RowE B l v w' := by
  obtain ⟨b, c, h1, h2, h3⟩ := h
  exact ⟨b, c, h1, h2, h3.below k⟩
theorem newEv (u : World) (x : Ev) : EvS (u.alloc (.cells #[.int .i64 x.k, .int .i64 x.t, .int .i64 x.o] 36)) (some ⟨u.heap.size, 0, none⟩) [x] := evS_full (l := [x]) (Has.new u _ _) rfl (by simp)
theorem RowE.of {w0 w w' : World} {base : Nat} {l : List Ev} {v v' : Value} {n : Nat} {xs : List Value} (hA : Appended w w' base 36 3 v v' n xs) (hx : xs = evL l) (hn : n = l.length) (hne : l ≠ []) (hB : w0.heap.size ≤ base) (hl : l.length < 4611686018427387904) : RowE w0.heap.size l v' w' := by
  subst hx hn
  have h1 := hA.own
  obtain ⟨a, c, e, hI, hb⟩ := evS_own h1 hl
  rcases h1.2 with ⟨_, h0⟩ | ⟨g, cap, cur, rfl, hg, hh, hnc, _⟩
  · exact absurd (List.eq_nil_of_length_eq_zero h0) hne
  · cases e
    exact ⟨g, _, rfl, Nat.le_trans hB hg, hI⟩
/-- What a node is built of. -/
def NodeF (B : Nat) (s : PS) (l : List Int) (y : Value) (v : Value) (w : World) : Prop := ∃ u, v = .agg (psR s [u, y]) ∧ RowT B l u w
theorem NodeF.on {B : Nat} {s : PS} {l : List Int} {y v : Value} {w w' : World} (h : NodeF B s l y v w) (k : Below w.heap.size w w') : NodeF B s l y v w' := by
  obtain ⟨u, h1, h2⟩ := h
  exact ⟨u, h1, h2.on k⟩
def NewN (B : Nat) (v : Value) (w : World) : Prop := ∃ b cs, v = .pointer (some ⟨b, 0, none⟩) ∧ B ≤ b ∧ cs.size = 39 ∧ Has w b cs ndT
theorem NewN.on {B : Nat} {v : Value} {w w' : World} (h : NewN B v w) (k : Below w.heap.size w w') : NewN B v w' := by
  obtain ⟨b, cs, h1, h2, h3, h4⟩ := h
  exact ⟨b, cs, h1, h2, h3, h4.below k h4.lt⟩
def KeepN (B : Nat) (w w' : World) : Prop := Below B w w' ∧ ∀ b cs, Has w b cs ndT → Has w' b cs ndT
theorem KeepN.refl (B : Nat) (w : World) : KeepN B w w := ⟨Below.refl _ _, fun _ _ h => h⟩
/-- An append onto a row of ints turns no node. -/
theorem KeepN.app {w0 w w' : World} {base size n n' : Nat} {e : TypeId} {v v' : Value} {xs ys : List Value} (hA : Appended w w' base e size v v' n' ys) (ho : w.ownsRow base e size v n xs) (he : e ≠ ndT) (hB : w0.heap.size ≤ base) (hs : w0.heap.size ≤ w.heap.size) : KeepN w0.heap.size w w' := by
  refine ⟨(Below.refl _ _).grown hA.grown hs fun k hk => Nat.le_trans hB (ho.lt k hk).1, fun b cs hb => ⟨?_⟩⟩
  rw [hA.grown.block b hb.lt ?_]
  · exact hb.out
  · intro e1
    rcases ho.2 with ⟨rfl, _⟩ | ⟨g, cap, cur, rfl, _, hh, _⟩
    · simp [Value.ownBlock] at e1
    · simp only [Value.ownBlock, Option.some.injEq] at e1
      subst e1
      rw [hb.out] at hh
      simp only [Option.some.injEq, Obj.cells.injEq] at hh
      exact he hh.2.1.symm
/-- The level of a row: told by the picks of its first node. -/
def measR (v : Value) (w : World) : Nat := match v with
  | .slice (some ad) (_ + 1) _ => (match w.cell? ⟨ad.block, ad.off + 37, none⟩ with | some (.slice _ k _) => 20 - k | _ => 0)
  | _ => 0
theorem measR_at {w : World} {a : Option Addr} {c n m : Nat} {nds : List Nd} (h : NdS w a nds) (hl : ∀ nd ∈ nds, nd.2.1.length = n) (hm : nds.length = m + 1) : measR (.slice a (m + 1) c) w = 20 - n := by
  obtain ⟨b, o, cs, rfl, hr, hnd⟩ := h.at (i := 0) (by omega)
  obtain ⟨a1, c1, a2, c2, hcs, _⟩ := hnd.ok
  have h37 : cs[37]? = some (.slice a1 (nds[0]'(by omega)).2.1.length c1) := by
    rw [hcs, Array.getElem?_toList]; exact psR_37at _ _ _
  have := hr 37 _ h37
  rw [Nat.zero_mul, Nat.add_zero] at this
  show (match w.cell? ⟨b, o + 37, none⟩ with | some (.slice _ k _) => 20 - k | _ => 0) = _
  rw [this, hl _ (List.getElem_mem _)]
set_option maxRecDepth 100000 in
set_option maxHeartbeats 8000000 in
theorem races_ok (p : List (List Ev)) (ap : Option Addr) (cp : Nat) (w : World) (h : PgS w ap p) (hc : chkE p = 0) :
    Calls Try.prog 30 #[.slice ap p.length cp] w (RacesP p w) := by
  obtain ⟨hp, htot⟩ := chkE_ok hc
  have HC := Lib.hid hc
  have hck := checkE_any p ap cp w h
  rw [hc] at hck
  have h6 := hp.six
  obtain ⟨i0, hi, hz0, hz1, hz2⟩ := info_parts infoNd
  clear hc
  go_enter Try.func30, Try.ntmps30
  go_wp2_with fail
  refine hck.mono ?_
  rintro r w1 ⟨rfl, hb1⟩
  clear hck
  go_wp2_with fail
  refine (firstP_any w1).mono ?_
  rintro r w2 ⟨rfl, hb2⟩
  have hk2 := hb1.trans (hb2.mono hb1.size)
  have hYs := psC_size PS.first
  have hYR : psR PS.first [.slice none 0 0, .slice none 0 0] = psC PS.first ++ #[.slice none 0 0, .slice none 0 0] := rfl
  generalize psC PS.first = Y at *
  have hf37 := fill37 hYs
  have hYS : (Y ++ #[Value.slice none 0 0, Value.slice none 0 0]).size = 39 := by simp [hYs]
  clear hb1 hb2
  obtain ⟨Y2, hY2⟩ : ∃ Y2, Y ++ #[Value.slice none 0 0, Value.slice none 0 0] = Y2 := ⟨_, rfl⟩
  rw [hY2] at hf37 hYR hYS
  have hf39 := fill39 hYS
  clear hY2
  go_upto_region 5 with fail
  generalize hW : World.alloc _ _ = W
  have hk3 : Below w.heap.size w W := by rw [← hW]; exact hk2.alloc hk2.size _
  have hN : Has W w2.heap.size Y2 ndT := by rw [← hW]; exact Has.new w2 _ _
  have hS : NdS W (some ⟨w2.heap.size, 0, none⟩) (rowN p 0) := ⟨.inr ⟨w2.heap.size, 0, rfl, fun i hi => by
    obtain rfl : i = 0 := by simp [rowN] at hi; exact hi
    refine ⟨Y2.toList, fun j v hv => ?_, ?_⟩
    · rw [Nat.zero_mul, Nat.add_zero, Nat.zero_add]
      rw [Array.getElem?_toList] at hv
      exact hN.cell hv
    · show NdC W none rootN Y2.toList
      rw [← hYR]
      exact NdC.root W none⟩⟩
  clear hW hN hf37 hf39 hYR hYS hYs hk2
  go_wp2
  go_loopw [6] (fun row wr => ∃ (n : Nat) (a : Option Addr) (c : Nat), row = .slice a (rowN p n).length c ∧ NdS wr a (rowN p n) ∧ CleanTo p n ∧ n ≤ 12 ∧ Below w.heap.size w wr) (fun row wr => measR row wr)
  case atStart => exact ⟨0, _, _, rfl, hS, CleanTo.zero p, Nat.zero_le _, hk3⟩
  case round =>
    clear hS hk3
    obtain ⟨n, a, c, rfl, hS, hcl, hn12, hb⟩ := hrel
    obtain ⟨wo, rfl⟩ : ∃ wo : World, wo = wr := ⟨_, rfl⟩
    have hms := fun (m : Nat) (hm : (rowN p n).length = m + 1) => measR_at (c := c) hS (fun nd hnd => (rowN_ok hp n nd hnd).len) hm
    have HMS := Lib.hid hms
    have hnodes := rowN_ok hp n
    have hcln := hcl n (Nat.le_refl _)
    have hlen := rowN_len h6 n
    have h612 : (6 : Nat) ^ n ≤ 2176782336 := Nat.le_trans (Nat.pow_le_pow_right (by decide) hn12) (by decide)
    have HRN : Hid (rowN p (n + 1) = kidsL p (rowN p n) (rowN p n).length) := Lib.hid rfl
    have HNONE : Hid (rowN p n = [] → ∀ picks, raceL (runP p picks).2 = []) := Lib.hid fun h0 => races_none hcl h0
    have HCL := Lib.hid hcl
    have HTOT : Hid (0 < (rowN p n).length → n ≤ 10) := Lib.hid fun h0 => by
      rcases Nat.lt_or_ge (totL p) n with c | c
      · rw [rowN_last hp c] at h0; exact absurd h0 (Nat.lt_irrefl _)
      · omega
    clear hms hcl
    obtain ⟨row, hrow⟩ : ∃ row, rowN p n = row := ⟨_, rfl⟩
    rw [hrow] at hS hnodes hcln hlen HRN HNONE HMS HTOT ⊢
    clear hrow
    have hrl : row.length ≤ 2176782336 := Nat.le_trans hlen h612
    clear hlen h612
    by_cases hpos : 0 < row.length
    · have hn10 := HTOT.out hpos
      have p0 : decide (0 < row.length) = true := decide_eq_true hpos
      have p1 : decide ((0 : Int) < row.length) = true := decide_eq_true (by omega)
      have p2 : decide ((row.length : Int) > 0) = true := p1
      go_upto_region 8 with fail
      go_loopw [7, 29] (fun nx i wr => ∃ (k : Nat) (css : List (List Value)), k ≤ row.length ∧ i = .int .i64 k ∧ NodesI wr wo.heap.size nx (kidsL p row k) css ∧ CleanN (kidsL p row k) ∧ Below wo.heap.size wo wr) (fun _ i _ => row.length - (intOf i).toNat)
      case atStart => exact ⟨0, [], Nat.zero_le _, rfl, NodesI.nil _ _, CleanN.nil, Below.refl _ _⟩
      case round =>
        obtain ⟨k, css, hk, rfl, hNx, hCn, hq⟩ := hrel
        obtain ⟨nx, rfl⟩ : ∃ nx : Value, nx = u7 := ⟨_, rfl⟩
        by_cases hlt : k < row.length
        · obtain ⟨b, o, cs, rfl, hr0, hnd⟩ := hS.at hlt
          have hr : wr.rangeAt b (o + k * 39) cs := fun j v hv => by
            have h2 := hr0 j v hv
            exact (hq.cell (World.block_lt_of_cell? wo _ h2)).trans h2
          clear hr0
          have hNP := hnodes row[k] (List.getElem_mem hlt)
          have hcln0 := hcln row[k] (List.getElem_mem hlt)
          have hfar := fun g e => (hNx.own.lt g e).2
          have HK1 := Lib.hid (kidsL_succ p row hlt)
          have k0 : (0 : Int) ≤ k := by omega
          have k1 : (k : Int) < row.length := by omega
          have hkl := kidsL_len h6 row k (by omega)
          obtain ⟨nd, hndE⟩ : ∃ nd, row[k] = nd := ⟨_, rfl⟩
          rw [hndE] at hnd hNP HK1 hcln0
          obtain ⟨a1, c1, a2, c2, hcs, hI1, hI2, hE1, _, _⟩ := hnd.ok
          subst hcs
          have hZ := psR_size2 nd.1 (.slice a1 nd.2.1.length c1) (.slice a2 nd.2.2.length c2)
          have hZ1 : (psR nd.1 [.slice a1 nd.2.1.length c1, .slice a2 nd.2.2.length c2]).all (·.oneCell') = true := by
            rw [Array.all_eq_true_iff_forall_mem]
            intro u hu
            exact psR_one2 nd.1 rfl rfl u (by simpa using hu)
          have hz39 := psR_size2 PS.zero (.slice none 0 0) (.slice none 0 0)
          generalize hZe : psR nd.1 [.slice a1 nd.2.1.length c1, .slice a2 nd.2.2.length c2] = Z at *
          clear hnd hndE
          go_upto_region 10 with (first
            | (refine wpList_load_mid rfl ndT _ rfl b (o + k * 39) rfl Z.toList _ hr Try.underlying122 rfl (by rw [Array.length_toList, hZ]; rfl) ?_; rw [Array.toArray_toList])
            | (refine wpList_store_row rfl ndT _ _ rfl wr.heap.size Z rfl rfl ndT _ (Has.new wr (psR PS.zero [.slice none 0 0, .slice none 0 0]) ndT).out (by rw [hZ]; rfl) (by rw [hZ, hz39]) hZ1 ?_))
          generalize hWx : World.setRow _ _ _ = W1
          have hN1 : Has W1 wr.heap.size Z ndT := by rw [← hWx]; exact (Has.new wr (psR PS.zero [.slice none 0 0, .slice none 0 0]) ndT).setRow
          have hb1 : Below wr.heap.size wr W1 := by rw [← hWx]; exact below_setRow ((Below.refl _ _).alloc (Nat.le_refl _) _) (Nat.le_refl _)
          have hq1 := hq.trans (hb1.mono hq.size)
          have hNx1 := hNx.below hb1
          have hlt1 : wr.heap.size < W1.heap.size := hN1.lt
          have hge1 : wo.heap.size ≤ wr.heap.size := hq.size
          clear hWx hr hNx hq hb1 hz39
          generalize wr.heap.size = B1 at *
          have hownk := hNx1.own.lt
          have hne1 : nx.ownBlock ≠ some B1 := fun e => by
            have := hfar B1 e
            omega
          have hn0 := hcln0
          go_upto_region 11 with fail
          go_loopw [7, 35] (fun v i wr => ∃ (t : Nat) (css : List (List Value)), t ≤ p.length ∧ i = .int .i64 t ∧ NodesI wr wo.heap.size v (kidsL p row k ++ kidsN p nd t) css ∧ CleanN (kidsL p row k ++ kidsN p nd t) ∧ Has wr B1 Z ndT ∧ v.ownBlock ≠ some B1 ∧ Below wo.heap.size wo wr) (fun _ i _ => p.length - (intOf i).toNat)
          case atStart => exact ⟨0, css, Nat.zero_le _, rfl, by rw [kidsN_zero, List.append_nil]; exact hNx1, by rw [kidsN_zero, List.append_nil]; exact hCn, hN1, hne1, hq1⟩
          case round =>
            clear hNx1 hCn hN1 hq1 hfar hownk hne1
            obtain ⟨t, css, ht, rfl, hNx, hCn, hN, hne, hq⟩ := hrel
            obtain ⟨nx, rfl⟩ : ∃ nx : Value, nx = u7 := ⟨_, rfl⟩
            by_cases htl : t < p.length
            · have t0 : (0 : Int) ≤ t := by omega
              have t1 : (t : Int) < p.length := by omega
              have hbw := hb.trans (hq.mono hb.size)
              have hC := can_any p nd.1 t ap cp B1 [.slice a1 nd.2.1.length c1, .slice a2 nd.2.2.length c2] ndT wr (h.below hbw) (by rw [hZe]; exact hN) hp hNP.at_.ip
              generalize hqc : canB p nd.1 t = qc at *
              have hlen1 : (kidsN p nd t).length ≤ t := kidsN_len p nd t
              go_wp2_with fail
              refine hC.mono ?_
              rintro r w3 ⟨rfl, hb3⟩
              have hq3 := hq.trans (hb3.mono hq.size)
              have hN3 := hN.below hb3 hN.lt
              have hNx3 := hNx.below hb3
              clear hC hbw hb3 hN hNx hq
              cases qc
              · have hKe := kidsN_no hqc
                go_wp2
                go_roundw
                case rel => exact ⟨t + 1, css, by omega, by go_num, by rw [hKe]; exact hNx3, by rw [hKe]; exact hCn, hN3, hne, hq3⟩
                case measure => (simp [intOf]; try omega)
              · have hKe := kidsN_yes hqc
                have hbw := hb.trans (hq3.mono hb.size)
                have hI3 := hI1.below hq3
                have hE3 := hE1.below hq3
                have hZr : ∀ w4, Below w3.heap.size w3 w4 → w4.rangeAt B1 0 (psC nd.1).toList := fun w4 h4 => psR_range (R := [.slice a1 nd.2.1.length c1, .slice a2 nd.2.2.length c2]) (T := ndT) (by rw [hZe]; exact hN3.below h4 hN3.lt)
                have hpl : nd.2.1.length ≤ 10 := by rw [hNP.len]; exact hn10
                have hlen10 : nd.2.2.length ≤ 10 := Nat.le_trans hNP.evs hn10
                have hclo := fun w4 (h4 : Below w3.heap.size w3 w4) => cloneI_all nd.2.1 a1 c1 w4 (hI3.below h4) hI2.1 (by omega)
                have F37 : ∀ w4, Below w3.heap.size w3 w4 → w4.cell? ⟨B1, 37, none⟩ = some (.slice a1 nd.2.1.length c1) := fun w4 h4 => (hN3.below h4 hN3.lt).cell (by rw [← hZe]; exact psR_37at _ _ _)
                have F38 : ∀ w4, Below w3.heap.size w3 w4 → w4.cell? ⟨B1, 38, none⟩ = some (.slice a2 nd.2.2.length c2) := fun w4 h4 => (hN3.below h4 hN3.lt).cell (by rw [← hZe]; exact psR_38at _ _ _)
                have hmk : ∀ (w : World), RowF w3.heap.size [(t : Int)] (.slice (some ⟨w.heap.size, 0, none⟩) 1 1) (w.alloc (.cells #[.int .i64 t] 3)) ∨ w.heap.size < w3.heap.size := fun w => by
                  rcases Nat.lt_or_ge w.heap.size w3.heap.size with h | h
                  · exact .inr h
                  · exact .inl ⟨_, _, _, rfl, h, by simp, newI w t⟩
                obtain ⟨j0, hj, jz0, jz1, jz2⟩ := info_parts infoI
                go_upto_region 14 with fail
                refine wp_region_fac2 (KeepN w3.heap.size) 12 (fun i => i == 7) (fun i => i == 11 || i == 1 || i == 9 || i == 0 || i == 8) [.one ?v0, .one ?v1, .one ?v2, .one ?v3, .rel (CloF w3.heap.size nd.2.1), .one ?v5, .rel (RowF w3.heap.size [(t : Int)]), .rel (RowT w3.heap.size (nd.2.1 ++ [(t : Int)])), .one ?v8, .one ?v9, .rel (NodeF w3.heap.size nd.1 (nd.2.1 ++ [(t : Int)]) (.slice a2 nd.2.2.length c2)), .rel (NewN w3.heap.size)]
                  (KeepN.refl _) (fun _ _ h => h.1) ?hs2 (by kernel_rfl) (by kernel_rfl) (by kernel_rfl) ?st ?go
                case hs2 =>
                  intro j F hj hF v w4 w5 _ hv hR
                  have e : (((j = 11 ∨ j = 1) ∨ j = 9) ∨ j = 0) ∨ j = 8 := by simpa using hj
                  rcases e with (((rfl | rfl) | rfl) | rfl) | rfl <;> simp at hF
                  subst hF
                  obtain ⟨b, cs, g1, g2, g3, g4⟩ := hv
                  exact ⟨b, cs, g1, g2, g3, hR.2 _ _ g4⟩
                case st =>
                  intro F hF v w4 w5 h4 h5
                  simp at hF
                  rcases hF with rfl | rfl | rfl | rfl | rfl
                  · exact h4.on h5
                  · exact h4.on h5
                  · exact h4.on h5
                  · exact h4.on h5
                  · exact h4.on h5
                case go =>
                  simp only [List.take_succ_cons, List.take_zero, List.drop_succ_cons, List.drop_zero]
                  repeat (with_reducible refine wpFac_one rfl (fun w1 hw1 hd => ?_) (fun a1 ha1 => ?_); (· go_simp; first | exact rfl | (refine ⟨atD_some ?_, Below.refl _ _⟩; simp only [List.getElem?_toArray, List.getElem?_cons_succ, List.getElem?_cons_zero]; exact rfl)); simp [Act.put] at ha1; subst ha1)
                  with_reducible refine wpFac_one rfl (fun w1 hw1 hd => ?_) (fun a1 ha1 => ?_)
                  · refine asked rfl ?_
                    refine wp_load_mid 90 _ rfl B1 0 rfl (psC nd.1).toList _ (hZr w1 hw1) Try.underlying90 rfl (by rw [Array.length_toList, psC_size]; rfl) ?_
                    refine ⟨rfl, atD_some ?_, Below.refl _ _⟩
                    simp [Act.put]
                    exact rfl
                  simp [Act.put] at ha1; subst ha1
                  repeat (with_reducible refine wpFac_one rfl (fun w1 hw1 hd => ?_) (fun a1 ha1 => ?_); (· have eF37 := F37 w1 hw1; have eF38 := F38 w1 hw1; go_simp; first | exact rfl | (refine ⟨atD_some ?_, Below.refl _ _⟩; simp only [List.getElem?_toArray, List.getElem?_cons_succ, List.getElem?_cons_zero]; exact rfl)); simp [Act.put] at ha1; subst ha1)
                  with_reducible refine wpFac_rel rfl (fun w1 hw1 hd => ?_) (fun v4 a1 ha1 => ?_)
                  · go_simp
                    refine (hclo w1 hw1).mono ?_
                    rintro r w2 ⟨v, rfl, hO, hb⟩
                    refine ⟨v, atD_some ?_, ⟨w1.heap.size, hw1.size, hb.size, hO⟩, hb⟩
                    simp
                  simp [Act.put] at ha1; subst ha1
                  repeat (with_reducible refine wpFac_one rfl (fun w1 hw1 hd => ?_) (fun a1 ha1 => ?_); (· have eF37 := F37 w1 hw1; have eF38 := F38 w1 hw1; go_simp; first | exact rfl | (refine ⟨atD_some ?_, Below.refl _ _⟩; simp only [List.getElem?_toArray, List.getElem?_cons_succ, List.getElem?_cons_zero]; exact rfl)); simp [Act.put] at ha1; subst ha1)
                  with_reducible refine wpFac_rel rfl (fun w1 hw1 hd => ?_) (fun v6 a1 ha1 => ?_)
                  · go_simp
                    refine ⟨_, atD_some ?_, (hmk w1).resolve_right (Nat.not_lt.2 hw1.size), (Below.refl _ _).alloc (Nat.le_refl _) _⟩
                    simp only [List.getElem?_toArray, List.getElem?_cons_succ, List.getElem?_cons_zero]
                  simp [Act.put] at ha1; subst ha1
                  with_reducible refine wpFac_weak (by kernel_rfl) (fun w1 hw1 hd => ?_) (fun v7 a1 ha1 => ?_)
                  · obtain ⟨base, hB, hbs, hO⟩ : CloF w3.heap.size nd.2.1 v4 w1 := hd 4 (by kernel_rfl)
                    obtain ⟨b5, o5, c5, e5, hB5, hlt5, hI5⟩ : RowF w3.heap.size [(t:Int)] v6 w1 := hd 6 (by kernel_rfl)
                    subst e5
                    refine app_step w1 rfl (.tmp 47) (.tmp 49) 23 rfl Try.underlying23 hj jz0 jz1 jz2 rfl (by decide) rfl hO rfl hI5.src (ints_one _) (by unfold maxLen; simp; omega) (by simp; omega) hbs ?_
                    intro v' w2 hA
                    refine ⟨rfl, v', atD_some ?_, RowT.of hA (by simp) (by simp) (by simp) hB (by simp; omega), KeepN.app hA hO (by decide) hB hw1.size⟩
                    simp [Act.put]
                  simp [Act.put] at ha1; subst ha1
                  repeat (with_reducible refine wpFac_one rfl (fun w1 hw1 hd => ?_) (fun a1 ha1 => ?_); (· have eF37 := F37 w1 hw1; have eF38 := F38 w1 hw1; go_simp; first | exact rfl | (refine ⟨atD_some ?_, Below.refl _ _⟩; simp only [List.getElem?_toArray, List.getElem?_cons_succ, List.getElem?_cons_zero]; exact rfl)); simp [Act.put] at ha1; subst ha1)
                  with_reducible refine wpFac_rel rfl (fun w1 hw1 hd => ?_) (fun v10 a1 ha1 => ?_)
                  · obtain ⟨b7, c7, cs7, fr7, e7, h71, h72, h73, h74⟩ : RowT w3.heap.size (nd.2.1 ++ [(t : Int)]) v7 w1 := hd 7 (by kernel_rfl)
                    subst e7
                    have hfn := fill37 (psC_size nd.1)
                    have hyn := psC_size nd.1
                    have hfR : psC nd.1 ++ #[.slice none 0 0, .slice none 0 0] = psR nd.1 [.slice none 0 0, .slice none 0 0] := rfl
                    rw [hfR] at hfn
                    have hset := fun u v : Value => (congrArg (fun A : Array Value => A.setIfInBounds 38 v) (psR_37 nd.1 (.slice none 0 0) (.slice none 0 0) u)).trans (psR_38 nd.1 u (.slice none 0 0) v)
                    have hz2n := psR_size2 nd.1 (.slice none 0 0) (.slice none 0 0)
                    clear hfR
                    go_simp
                    refine ⟨_, atD_some ?_, ⟨.slice (some ⟨b7, 0, none⟩) (nd.2.1.length + 1) c7, rfl, b7, c7, cs7, fr7, by simp, h71, h72, h73, h74⟩, Below.refl _ _⟩
                    simp only [List.getElem?_toArray, List.getElem?_cons_succ, List.getElem?_cons_zero]
                  simp [Act.put] at ha1; subst ha1
                  with_reducible refine wpFac_rel rfl (fun w1 hw1 hd => ?_) (fun v11 a1 ha1 => ?_)
                  · go_simp
                    refine ⟨_, atD_some ?_, ⟨_, _, rfl, hw1.size, rfl, Has.new _ _ _⟩, (Below.refl _ _).alloc (Nat.le_refl _) _⟩
                    simp only [List.getElem?_toArray, List.getElem?_cons_succ, List.getElem?_cons_zero]
                  simp [Act.put] at ha1; subst ha1
                  refine wpFac_nil ?_
                  intro w4 hw4 hG
                  have e7 : RowT w3.heap.size (nd.2.1 ++ [(t : Int)]) v7 w4 := hG 7 (by decide) (by kernel_rfl)
                  obtain ⟨u, e10, hU⟩ : NodeF w3.heap.size nd.1 (nd.2.1 ++ [(t : Int)]) (.slice a2 nd.2.2.length c2) v10 w4 := hG 10 (by decide) (by kernel_rfl)
                  obtain ⟨bm, csm, e11, hBm, hsm, hM0⟩ : NewN w3.heap.size v11 w4 := hG 11 (by decide) (by kernel_rfl)
                  subst e10 e11
                  obtain ⟨bp, cpp, rfl, hcp, hBp, hnpm, hIp⟩ := hU.far hM0
                  have hlp : (nd.2.1 ++ [(t : Int)]).length = nd.2.1.length + 1 := by simp
                  rw [hlp] at hcp ⊢
                  have hZk := psR_size2 nd.1 (.slice (some ⟨bp, 0, none⟩) (nd.2.1.length + 1) cpp) (.slice a2 nd.2.2.length c2)
                  have hZk1 : (psR nd.1 [.slice (some ⟨bp, 0, none⟩) (nd.2.1.length + 1) cpp, .slice a2 nd.2.2.length c2]).all (·.oneCell') = true := by
                    rw [Array.all_eq_true_iff_forall_mem]
                    intro u hu
                    exact psR_one2 nd.1 rfl rfl u (by simpa using hu)
                  clear hG e7 hU hZr hclo F37 F38 hmk
                  go_wp2_with (refine wpList_store_row rfl ndT _ _ rfl bm (psR nd.1 [.slice (some ⟨bp, 0, none⟩) (nd.2.1.length + 1) cpp, .slice a2 nd.2.2.length c2]) rfl rfl ndT _ hM0.out (by rw [hZk]; rfl) (by rw [hZk, hsm]) hZk1 ?_
                               generalize hWx : World.setRow _ _ _ = w5
                               have hM5 : Has w5 bm (psR nd.1 [.slice (some ⟨bp, 0, none⟩) (nd.2.1.length + 1) cpp, .slice a2 nd.2.2.length c2]) ndT := by rw [← hWx]; exact hM0.setRow
                               have hb5 : Below w3.heap.size w3 w5 := by rw [← hWx]; exact below_setRow hw4 hBm
                               have hI5 : IntS w5 (some ⟨bp, 0, none⟩) (nd.2.1 ++ [(t : Int)]) := by rw [← hWx]; exact hIp.grownFar (grown_setRow w4 bm _) (fun _ ad e => by cases e; intro h0; exact hnpm (Option.some.inj h0))
                               have hst := step_any p nd.1 t ap cp bm [.slice (some ⟨bp, 0, none⟩) (nd.2.1.length + 1) cpp, .slice a2 nd.2.2.length c2] ndT w w5 h (hbw.trans (hb5.mono hbw.size)) (Nat.le_trans hbw.size hBm) hM5 hp hNP.at_.ip hqc (by have := hNP.at_.small t; omega)
                               clear hWx hM0 hIp hw4)
                  refine hst.mono ?_
                  rintro r w6 ⟨rfl, hM6, hg6⟩
                  have hb6 : Below w3.heap.size w3 w6 := hb5.grown hg6 hb5.size fun k e => by cases e; exact hBm
                  have hI6 : IntS w6 (some ⟨bp, 0, none⟩) (nd.2.1 ++ [(t : Int)]) := hI5.grownFar hg6 (fun _ ad e => by cases e; intro h0; exact hnpm (Option.some.inj h0))
                  have hkid : kidN p nd t = ((stepP p nd.1 t).1, nd.2.1 ++ [(t : Int)], nd.2.2 ++ (stepP p nd.1 t).2.toList) := rfl
                  have hway := fun hr => WayR.of hp htot hNP hn0 hqc hr
                  have hval : (played (kidN p nd t).2.2).2.2 = 0 := by
                    have h1 := (hNP.kid hp hqc).run
                    have h2 := runP_may hp (kidN p nd t).2.1
                    rw [h1] at h2
                    unfold mayB at h2
                    exact eq_of_beq h2
                  have hgo : ∀ g, nx.ownBlock = some g → wo.heap.size ≤ g ∧ g < w3.heap.size := hNx3.own.lt
                  have hown : ∀ g, nx.ownBlock = some g → bp ≠ g := fun g e e2 => by have := (hgo g e).2; omega
                  have hkl6 : (kidsL p row k).length ≤ 13060694016 := by omega
                  rw [hkid] at hway hval hKe
                  generalize hsp : stepP p nd.1 t = sp at *
                  obtain ⟨s', ev⟩ := sp
                  clear hst hM5 hb5 hI5 hg6 hkid hZk hZk1
                  cases ev with
                  | none =>
                    simp only [Option.toList_none, List.append_nil] at hway hval hKe
                    have hclk : raceL (s', nd.2.1 ++ [(t : Int)], nd.2.2).2.2 = [] := hn0
                    go_upto_region 21 with fail
                    generalize hW7 : World.alloc _ _ = w7
                    have hME : Has w7 bm (psR s' [.slice (some ⟨bp, 0, none⟩) (nd.2.1.length + 1) cpp, .slice a2 nd.2.2.length c2]) ndT := by rw [← hW7]; exact hM6.alloc _
                    have hbE : Below w3.heap.size w3 w7 := by rw [← hW7]; exact hb6.alloc hb6.size _
                    have hIE : IntS w7 (some ⟨bp, 0, none⟩) (nd.2.1 ++ [(t : Int)]) := by rw [← hW7]; exact hI6.below ((Below.refl _ _).alloc (Nat.le_refl _) _)
                    have hNxE := hNx3.below hbE
                    have hNE := hN3.below hbE hN3.lt
                    have hEE := hE3.below hbE
                    have hNC : NdC w7 nx.ownBlock (s', nd.2.1 ++ [(t : Int)], nd.2.2) (psR s' [.slice (some ⟨bp, 0, none⟩) (nd.2.1.length + 1) cpp, .slice a2 nd.2.2.length c2]).toList :=
                      ⟨some ⟨bp, 0, none⟩, cpp, a2, c2, by rw [hlp], hIE, ⟨fun h => absurd h (by simp), by rw [hlp]; exact hcp⟩, hEE, fun _ ad e => by cases e; exact fun h0 => hown bp h0.symm rfl, fun h ad e h0 => by
                        have h1 := hE1.lt h e
                        have h2 := hgo ad.block h0.symm
                        omega⟩
                    clear hW7 hM6 hb6 hI6 hNx3 hN3 hE3 hI3 hIE hEE hway hval hgo hown
                    have hZk1 : ∀ u ∈ (psR s' [.slice (some ⟨bp, 0, none⟩) (nd.2.1.length + 1) cpp, .slice a2 nd.2.2.length c2]).toList, u.oneCell' = true := psR_one2 s' rfl rfl
                    have hZk := psR_size2 s' (.slice (some ⟨bp, 0, none⟩) (nd.2.1.length + 1) cpp) (.slice a2 nd.2.2.length c2)
                    generalize psR s' [.slice (some ⟨bp, 0, none⟩) (nd.2.1.length + 1) cpp, .slice a2 nd.2.2.length c2] = Zk at *
                    have hfill := fill39 hZk
                    have hT : ∀ W : World, W = w7.alloc (.cells Zk ndT) → Has W w7.heap.size Zk ndT := fun W e => by rw [e]; exact Has.new w7 Zk ndT
                    have hcount : (kidsL p row k ++ kidsN p nd t).length ≤ 13060694022 := by rw [List.length_append]; omega
                    have hsw := hbE.size
                    have hqE := hq3.trans (hbE.mono hq3.size)
                    have hwoE := hqE.size
                    go_wp2_with (first
                      | (refine wpList_load_row rfl ndT _ rfl bm rfl ndT Zk (0, 0) _ hME.out Try.underlying122 rfl (by rw [hZk]; rfl) ?_)
                      | (at_builtin; refine app_list _ rfl (.tmp 80) (.tmp 82) 123 rfl Try.underlying123 hi hz0 hz1 hz2 (psR_size2 _ _ _) (by decide) rfl (hNxE.own.alloc _) rfl (news := Zk.toList) (cells_src (hT _ rfl) hZk) hZk1 ?c3 ?c4 ?c5 ?_))
                    case c3 => unfold maxLen; omega
                    case c4 => omega
                    case c5 => simp; omega
                    intro v' w9 hA
                    have hkA : Below w7.heap.size w7 (w7.alloc (.cells Zk ndT)) := (Below.refl _ _).alloc (Nat.le_refl _) _
                    have hNx9 := (hNxE.below hkA).app (hNC.below hkA) (by rw [List.length_append]; exact hA)
                    rw [List.append_assoc, ← hKe] at hNx9
                    have hlt9 := hNxE.own.lt
                    have hN9 : Has w9 B1 Z ndT := (hNE.below hkA hNE.lt).grown hA.grown (fun e => hne e.symm)
                    have hne9 : v'.ownBlock ≠ some B1 := by
                      rcases hA.lies with e | e
                      · rw [e]; exact hne
                      · rw [e]
                        intro e2
                        have e3 := Option.some.inj e2
                        have := hNE.lt
                        simp at e3
                        omega
                    have hb9 : Below wo.heap.size wo w9 := (hqE.alloc hqE.size (.cells Zk ndT)).grown hA.grown (by simp; omega) fun g e => (hlt9 g e).1
                    have hCn9 : CleanN (kidsL p row k ++ kidsN p nd (t + 1)) := by
                      rw [hKe, ← List.append_assoc]
                      exact hCn.snoc hclk
                    clear hA hNC hNxE hME hT hfill hkA hlt9 hNE hqE hbE
                    go_wp2
                    go_roundw
                    case rel => exact ⟨t + 1, css ++ [Zk.toList], by omega, by go_num, hNx9, hCn9, hN9, hne9, hb9⟩
                    case measure => (simp [intOf]; try omega)
                  | some x =>
                    simp only [Option.toList_some] at hway hval hKe
                    have hll : (nd.2.2 ++ [x]).length = nd.2.2.length + 1 := by simp
                    go_upto_region 17 with fail
                    generalize hW7 : World.alloc _ _ = w7
                    have hX7 : Has w7 w6.heap.size (evC x) 36 := by rw [← hW7]; exact Has.new w6 _ _
                    have hM7 : Has w7 bm (psR s' [.slice (some ⟨bp, 0, none⟩) (nd.2.1.length + 1) cpp, .slice a2 nd.2.2.length c2]) ndT := by rw [← hW7]; exact hM6.alloc _
                    have hb7 : Below w3.heap.size w3 w7 := by rw [← hW7]; exact hb6.alloc hb6.size _
                    have hI7 : IntS w7 (some ⟨bp, 0, none⟩) (nd.2.1 ++ [(t : Int)]) := by rw [← hW7]; exact hI6.below ((Below.refl _ _).alloc (Nat.le_refl _) _)
                    have hN7 := hN3.below hb7 hN3.lt
                    have hE7 := hE3.below hb7
                    clear hW7 hM6 hb6 hI6 hE3 hI3
                    have F38 : ∀ w4, Below w7.heap.size w7 w4 → w4.cell? ⟨B1, 38, none⟩ = some (.slice a2 nd.2.2.length c2) := fun w4 h4 => (hN7.below h4 hN7.lt).cell (by rw [← hZe]; exact psR_38at _ _ _)
                    have X0 : ∀ w4, Below w7.heap.size w7 w4 → w4.cell? ⟨w6.heap.size, 0, none⟩ = some (.int .i64 x.k) := fun w4 h4 => (hX7.below h4 hX7.lt).cell rfl
                    have X1 : ∀ w4, Below w7.heap.size w7 w4 → w4.cell? ⟨w6.heap.size, 1, none⟩ = some (.int .i64 x.t) := fun w4 h4 => (hX7.below h4 hX7.lt).cell rfl
                    have X2 : ∀ w4, Below w7.heap.size w7 w4 → w4.cell? ⟨w6.heap.size, 2, none⟩ = some (.int .i64 x.o) := fun w4 h4 => (hX7.below h4 hX7.lt).cell rfl
                    have hclo := fun w4 (h4 : Below w7.heap.size w7 w4) => clone_all nd.2.2 a2 c2 w4 (hE7.below h4) (by omega)
                    have hmk : ∀ (w : World), RowE w7.heap.size [x] (.slice (some ⟨w.heap.size, 0, none⟩) 1 1) (w.alloc (.cells #[.int .i64 x.k, .int .i64 x.t, .int .i64 x.o] 36)) ∨ w.heap.size < w7.heap.size := fun w => by
                      rcases Nat.lt_or_ge w.heap.size w7.heap.size with h | h
                      · exact .inr h
                      · exact .inl ⟨_, _, rfl, h, newEv w x⟩
                    obtain ⟨j0, hj, jz0, jz1, jz2⟩ := info_parts infoE
                    refine wp_region_fac 6 (fun i => i == 5) [.one ?e0, .one ?e1, .rel (CloE w7.heap.size nd.2.2), .one ?e3, .rel (RowE w7.heap.size [x]), .rel (RowE w7.heap.size (nd.2.2 ++ [x]))] (by kernel_rfl) (by kernel_rfl) (by kernel_rfl) ?ste ?goe
                    case ste =>
                      intro F hF v w4 w5 h4 h5
                      simp at hF
                      rcases hF with rfl | rfl | rfl
                      · exact h4.on h5
                      · exact h4.on h5
                      · exact h4.on h5
                    case goe =>
                    simp only [List.take_succ_cons, List.take_zero, List.drop_succ_cons, List.drop_zero]
                    repeat (with_reducible refine wpFac_one rfl (fun w1 hw1 hd => ?_) (fun a1 ha1 => ?_); (· have eF38 := F38 w1 hw1; go_simp; first | exact rfl | (refine ⟨atD_some ?_, Below.refl _ _⟩; simp only [List.getElem?_toArray, List.getElem?_cons_succ, List.getElem?_cons_zero]; exact rfl)); simp [Act.put] at ha1; subst ha1)
                    with_reducible refine wpFac_rel rfl (fun w1 hw1 hd => ?_) (fun v2 a1 ha1 => ?_)
                    · go_simp
                      refine (hclo w1 hw1).mono ?_
                      rintro r w2 ⟨v, rfl, hO, hb⟩
                      refine ⟨v, atD_some ?_, ⟨w1.heap.size, hw1.size, hb.size, hO⟩, hb⟩
                      simp
                    simp [Act.put] at ha1; subst ha1
                    repeat (with_reducible refine wpFac_one rfl (fun w1 hw1 hd => ?_) (fun a1 ha1 => ?_); (· have eX0 := X0 w1 hw1; have eX1 := X1 w1 hw1; have eX2 := X2 w1 hw1; go_simp; first | exact rfl | (refine ⟨atD_some ?_, Below.refl _ _⟩; simp only [List.getElem?_toArray, List.getElem?_cons_succ, List.getElem?_cons_zero]; exact rfl)); simp [Act.put] at ha1; subst ha1)
                    with_reducible refine wpFac_rel rfl (fun w1 hw1 hd => ?_) (fun v4 a1 ha1 => ?_)
                    · go_simp
                      refine ⟨_, atD_some ?_, (hmk w1).resolve_right (Nat.not_lt.2 hw1.size), (Below.refl _ _).alloc (Nat.le_refl _) _⟩
                      simp only [List.getElem?_toArray, List.getElem?_cons_succ, List.getElem?_cons_zero]
                    simp [Act.put] at ha1; subst ha1
                    with_reducible refine wpFac_weak (by kernel_rfl) (fun w1 hw1 hd => ?_) (fun v5 a1 ha1 => ?_)
                    · obtain ⟨base, hB, hbs, hO⟩ : CloE w7.heap.size nd.2.2 v2 w1 := hd 2 (by kernel_rfl)
                      obtain ⟨b4, c4, e4, hB4, hI4⟩ : RowE w7.heap.size [x] v4 w1 := hd 4 (by kernel_rfl)
                      subst e4
                      refine app_step w1 rfl (.tmp 64) (.tmp 66) 30 rfl Try.underlying30 hj jz0 jz1 jz2 rfl (by decide) rfl hO rfl hI4.src (evL_one _) (by unfold maxLen; simp; omega) (by simp; omega) hbs ?_
                      intro v' w2 hA
                      refine ⟨rfl, v', atD_some ?_, RowE.of hA (by rw [evL_append]) (by simp) (by simp) hB (by simp; omega), (Below.refl _ _).grown hA.grown hw1.size fun g e => Nat.le_trans hB (hO.lt g e).1⟩
                      simp [Act.put]
                    simp [Act.put] at ha1; subst ha1
                    refine wpFac_nil ?_
                    intro w8 hw8 hG
                    obtain ⟨be, ce, e5, hBe, hEe⟩ : RowE w7.heap.size (nd.2.2 ++ [x]) v5 w8 := hG 5 (by decide) (by kernel_rfl)
                    subst e5
                    have hM8 := hM7.below hw8 hM7.lt
                    have hf38 := hM8.free 38
                    have hbm7 := hM7.lt
                    have hc38 : w8.cell? ⟨bm, 38, none⟩ = some (.slice a2 nd.2.2.length c2) := hM8.cell (psR_38at _ _ _)
                    rw [hll]
                    clear hG F38 X0 X1 X2 hclo hmk hX7
                    go_upto_region 18 with fail
                    generalize hW9 : World.setCell _ _ _ = w9
                    have hM9 : Has w9 bm (psR s' [.slice (some ⟨bp, 0, none⟩) (nd.2.1.length + 1) cpp, .slice (some ⟨be, 0, none⟩) (nd.2.2.length + 1) ce]) ndT := by
                      rw [← hW9]
                      have := hM8.setCell 38 (.slice (some ⟨be, 0, none⟩) (nd.2.2.length + 1) ce)
                      rwa [psR_38] at this
                    have hb9 : Below w3.heap.size w3 w9 := by
                      rw [← hW9]
                      exact (hb7.trans (hw8.mono hb7.size)).setCell (show w3.heap.size ≤ (⟨bm, 38, none⟩ : Addr).block from hBm) _
                    have hI9 : IntS w9 (some ⟨bp, 0, none⟩) (nd.2.1 ++ [(t : Int)]) := by
                      rw [← hW9]
                      exact (hI7.below hw8).setFar (fun g o e => by cases e; exact fun h0 => hnpm h0.symm) _
                    have hE9 : EvS w9 (some ⟨be, 0, none⟩) (nd.2.2 ++ [x]) := by
                      rw [← hW9]
                      exact hEe.setFar (fun g o e => by cases e; exact fun h0 => by have h0 : bm = be := h0; omega) _
                    have hs3be : w3.heap.size ≤ be := Nat.le_trans hb7.size hBe
                    clear hW9 hM8 hf38 hc38 hM7 hI7 hEe hE7 hw8 hb7 hBe
                    have hsec := fun (w10 : World) (h10 : Below w9.heap.size w9 w10) => seconds_ok (nd.2.2 ++ [x]) (nd.2.2.length + 1) hll (some ⟨be, 0, none⟩) ce w10 (hE9.below h10) hval
                    have HQ : Hid (secL ((raceL (nd.2.2 ++ [x])).map Rc.b) = [] ↔ raceL (nd.2.2 ++ [x]) = []) := Lib.hid (by rw [secL_nil, List.map_eq_nil_iff])
                    unfold SecPost at hsec
                    generalize secL ((raceL (nd.2.2 ++ [x])).map Rc.b) = Q at *
                    have hc38 : w9.cell? ⟨bm, 38, none⟩ = some (.slice (some ⟨be, 0, none⟩) (nd.2.2.length + 1) ce) := hM9.cell (psR_38at _ _ _)
                    have hsec9 := hsec w9 (Below.refl _ _)
                    go_wp2_with fail
                    refine hsec9.mono ?_
                    rintro r w10 ⟨aq, cq, rfl, _, hb10⟩
                    have hME := hM9.below hb10 hM9.lt
                    have hbE := hb9.trans (hb10.mono hb9.size)
                    have hIE := hI9.below hb10
                    have hEE := hE9.below hb10
                    clear hsec hsec9 hM9 hb9 hI9 hE9 hb10 hc38
                    by_cases hq0 : 0 < Q.length
                    · have q1 : decide ((0 : Int) < Q.length) = true := decide_eq_true (by omega)
                      have q2 : decide ((Q.length : Int) > 0) = true := q1
                      have q3 : decide (0 < Q.length) = true := decide_eq_true hq0
                      have hrace : raceL (nd.2.2 ++ [x]) ≠ [] := fun e => by
                        have := HQ.out.2 e
                        rw [this] at hq0
                        exact absurd hq0 (Nat.lt_irrefl _)
                      have HW := Lib.hid (hway hrace)
                      have F37 : ∀ w11, Below w10.heap.size w10 w11 → w11.cell? ⟨bm, 37, none⟩ = some (.slice (some ⟨bp, 0, none⟩) (nd.2.1.length + 1) cpp) := fun w11 h11 => (hME.below h11 hME.lt).cell (psR_37at _ _ _)
                      have hwoE := hq3.trans (hbE.mono hq3.size)
                      have hfin := hb.trans (hwoE.mono hb.size)
                      have HI := Lib.hid hIE
                      clear hME hEE hIE hNx3 hN3 hN7 hrace hway hval hwoE
                      go_upto_region 20 with fail
                      refine wp_region_fac 3 (fun _ => false) [.one ?r0, .one ?r1, .one ?r2] (by kernel_rfl) (by kernel_rfl) (by kernel_rfl) (by intro F hF; simp at hF) ?gor
                      case gor =>
                      simp only [List.take_succ_cons, List.take_zero, List.drop_succ_cons, List.drop_zero]
                      repeat (with_reducible refine wpFac_one rfl (fun w1 hw1 hd => ?_) (fun a1 ha1 => ?_); (· have eF37 := F37 w1 hw1; go_simp; first | exact rfl | (refine ⟨atD_some ?_, Below.refl _ _⟩; simp only [List.getElem?_toArray, List.getElem?_cons_succ, List.getElem?_cons_zero]; exact rfl)); simp [Act.put] at ha1; subst ha1)
                      refine wpFac_nil ?_
                      intro w11 hw11 _
                      have hfin1 := hfin.trans (hw11.mono hfin.size)
                      have HI1 := Lib.hid (HI.out.below hw11)
                      clear F37 hw11 hfin HI
                      go_wp2
                      go_ret3
                      exact ⟨hfin1, .inr ⟨HC.out, .inl ⟨_, _, cpp, HW.out, by rw [hlp]; exact hcp, by rw [hlp]; rfl, HI1.out⟩⟩⟩
                    · have hql : Q.length = 0 := by omega
                      have hclk : raceL (s', nd.2.1 ++ [(t : Int)], nd.2.2 ++ [x]).2.2 = [] := HQ.out.1 (List.eq_nil_of_length_eq_zero hql)
                      have hNxE := hNx3.below hbE
                      have hNE := hN3.below hbE hN3.lt
                      have hNC : NdC w10 nx.ownBlock (s', nd.2.1 ++ [(t : Int)], nd.2.2 ++ [x]) (psR s' [.slice (some ⟨bp, 0, none⟩) (nd.2.1.length + 1) cpp, .slice (some ⟨be, 0, none⟩) (nd.2.2.length + 1) ce]).toList :=
                        ⟨some ⟨bp, 0, none⟩, cpp, some ⟨be, 0, none⟩, ce, by rw [hlp, hll], hIE, ⟨fun h => absurd h (by simp), by rw [hlp]; exact hcp⟩, hEE, fun _ ad e => by cases e; exact fun h0 => hown bp h0.symm rfl, fun _ ad e => by
                          cases e
                          intro h0
                          have h2 := (hgo be h0.symm).2
                          omega⟩
                      clear hNx3 hN3 hN7 hIE hEE hway hval hgo hown
                      rw [hql]
                      have hZk1 : ∀ u ∈ (psR s' [.slice (some ⟨bp, 0, none⟩) (nd.2.1.length + 1) cpp, .slice (some ⟨be, 0, none⟩) (nd.2.2.length + 1) ce]).toList, u.oneCell' = true := psR_one2 s' rfl rfl
                      have hZk := psR_size2 s' (.slice (some ⟨bp, 0, none⟩) (nd.2.1.length + 1) cpp) (.slice (some ⟨be, 0, none⟩) (nd.2.2.length + 1) ce)
                      generalize psR s' [.slice (some ⟨bp, 0, none⟩) (nd.2.1.length + 1) cpp, .slice (some ⟨be, 0, none⟩) (nd.2.2.length + 1) ce] = Zk at *
                      have hfill := fill39 hZk
                      have hT : ∀ W : World, W = w10.alloc (.cells Zk ndT) → Has W w10.heap.size Zk ndT := fun W e => by rw [e]; exact Has.new w10 Zk ndT
                      have hcount : (kidsL p row k ++ kidsN p nd t).length ≤ 13060694022 := by rw [List.length_append]; omega
                      have hsw := hbE.size
                      have hqE := hq3.trans (hbE.mono hq3.size)
                      have hwoE := hqE.size
                      go_wp2_with (first
                        | (refine wpList_load_row rfl ndT _ rfl bm rfl ndT Zk (0, 0) _ hME.out Try.underlying122 rfl (by rw [hZk]; rfl) ?_)
                        | (at_builtin; refine app_list _ rfl (.tmp 80) (.tmp 82) 123 rfl Try.underlying123 hi hz0 hz1 hz2 (psR_size2 _ _ _) (by decide) rfl (hNxE.own.alloc _) rfl (news := Zk.toList) (cells_src (hT _ rfl) hZk) hZk1 ?c3 ?c4 ?c5 ?_))
                      case c3 => unfold maxLen; omega
                      case c4 => omega
                      case c5 => simp; omega
                      intro v' w9 hA
                      have hkA : Below w10.heap.size w10 (w10.alloc (.cells Zk ndT)) := (Below.refl _ _).alloc (Nat.le_refl _) _
                      have hNx9 := (hNxE.below hkA).app (hNC.below hkA) (by rw [List.length_append]; exact hA)
                      rw [List.append_assoc, ← hKe] at hNx9
                      have hlt9 := hNxE.own.lt
                      have hN9 : Has w9 B1 Z ndT := (hNE.below hkA hNE.lt).grown hA.grown (fun e => hne e.symm)
                      have hne9 : v'.ownBlock ≠ some B1 := by
                        rcases hA.lies with e | e
                        · rw [e]; exact hne
                        · rw [e]
                          intro e2
                          have e3 := Option.some.inj e2
                          have := hNE.lt
                          simp at e3
                          omega
                      have hb9 : Below wo.heap.size wo w9 := (hqE.alloc hqE.size (.cells Zk ndT)).grown hA.grown (by simp; omega) fun g e => (hlt9 g e).1
                      have hCn9 : CleanN (kidsL p row k ++ kidsN p nd (t + 1)) := by
                        rw [hKe, ← List.append_assoc]
                        exact hCn.snoc hclk
                      clear hA hNC hNxE hME hT hfill hkA hlt9 hNE hqE hbE
                      go_wp2
                      go_roundw
                      case rel => exact ⟨t + 1, css ++ [Zk.toList], by omega, by go_num, hNx9, hCn9, hN9, hne9, hb9⟩
                      case measure => (simp [intOf]; try omega)
            · obtain rfl : t = p.length := by omega
              rw [← HK1.out] at hNx hCn
              clear hN hne
              go_wp2
              go_roundw
              case rel => exact ⟨k + 1, css, by omega, by go_num, hNx, hCn, hq⟩
              case measure => (simp [intOf]; try omega)
        · obtain rfl : k = row.length := by omega
          obtain ⟨an, cn, rfl, hSn⟩ := hNx.shut
          rw [← HRN.out] at hSn hCn ⊢
          obtain ⟨m, hm⟩ : ∃ m, row.length = m + 1 := ⟨row.length - 1, by omega⟩
          have hold := HMS.out m hm
          have hbw := hb.trans (hq.mono hb.size)
          have HNX : Hid (measR (.slice an (rowN p (n + 1)).length cn) wr ≤ 20 - (n + 1)) := Lib.hid (by
            cases hl : (rowN p (n + 1)).length with
            | zero =>
              have : measR (.slice an 0 cn) wr = 0 := by cases an <;> rfl
              rw [this]; exact Nat.zero_le _
            | succ j =>
              rw [measR_at hSn (fun nd hnd => (rowN_ok hp (n + 1) nd hnd).len) hl]
              exact Nat.le_refl _)
          have hcl1 := HCL.out.next hCn
          have HOLD : Hid (measR (.slice a row.length c) wo = 20 - n) := Lib.hid (by rw [hm]; exact hold)
          clear hNx hold hm
          go_wp2
          go_roundw
          case rel => exact ⟨n + 1, an, cn, rfl, hSn, hcl1, by omega, hbw⟩
          case measure => (have h1 := HNX.out; have h2 := HOLD.out; rw [h2]; omega)
    · obtain rfl : row = [] := List.eq_nil_of_length_eq_zero (by omega)
      have HN := Lib.hid (HNONE.out rfl)
      clear hcln HCL HNONE hnodes HRN
      go_wp2
      go_ret3
      exact ⟨hb, .inr ⟨HC.out, .inr ⟨HN.out, rfl⟩⟩⟩
set_option maxRecDepth 100000 in
set_option maxHeartbeats 4000000 in
theorem races_any (p : List (List Ev)) (ap : Option Addr) (cp : Nat) (w : World) (h : PgS w ap p) :
    Calls Try.prog 30 #[.slice ap p.length cp] w (RacesP p w) := by
  by_cases hc : chkE p = 0
  · exact races_ok p ap cp w h hc
  · have hck := checkE_any p ap cp w h
    have e1 : (chkE p != 0) = true := bne_iff_ne.2 hc
    have e2 : (chkE p == 0) = false := beq_eq_false_iff_ne.2 hc
    have e3 : decide (chkE p = 0) = false := decide_eq_false hc
    have HC := Lib.hid hc
    clear hc
    obtain ⟨C, hC⟩ : ∃ C, chkE p = C := ⟨_, rfl⟩
    have HCC := Lib.hid hC
    rw [hC] at hck e1 e2 e3
    clear hC
    go_enter Try.func30, Try.ntmps30
    go_wp2_with fail
    refine hck.mono ?_
    rintro r w1 ⟨rfl, hb1⟩
    clear hck
    go_wp2
    go_ret3
    exact ⟨hb1, .inl ⟨HC.out, by rw [HCC.out]; rfl⟩⟩
end Go.Proofs.Ytoohconipcleiaa
