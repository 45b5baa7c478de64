/- ProgPicks: picks of threads that do not exist have no effect: for every program, every slice of picks, every number and every place. -/
import Derived.Test.YthfeakfakjecoaaRows
import Derived.Test.YthfeakfakjecoaaPgI
import Derived.Test.YthfeakfakjecoaaPgQ
import Derived.Test.YthfeakfakjecoaaEqE
import Derived.Test.YthfeakfakjecoaaRest
import Derived.Test.YthfeakfakjecoaaStp
import Derived.Deep.RegionLaw
import Derived.Test.YthfeakfakjecoaaOpenE
import Derived.Test.YthfeakfakjecoaaOpenI
namespace Go.Proofs.Ythfeakfakjecoaa
open Go.ChangeShapes Go.WideShapes Go.ChangeAt Go.RowKit

theorem IntS.src {w : World} {a : Option Addr} {l : List Int} (h : IntS w a l) : Src w 1 a l.length (ints l) := by
  refine ⟨by simp, ?_⟩
  rcases h.ok with rfl | ⟨b, o, ha, hc⟩
  · exact .inl ⟨rfl, rfl⟩
  · right
    refine ⟨_, ha, fun j u hu => ?_⟩
    have hj : j < l.length := by have := (List.getElem?_eq_some_iff.1 hu).1; simpa using this
    have hadd : (⟨b, o, none⟩ : Addr).add j = ⟨b, o + j, none⟩ := by unfold Addr.add; split <;> simp_all
    rw [hadd, hc j hj]
    simp [hj] at hu
    rw [hu]
theorem IntS.takeN {w : World} {a : Option Addr} {l : List Int} (h : IntS w a l) (n : Nat) : IntS w a (l.take n) := by
  refine ⟨by have := h.big; simp; omega, ?_⟩
  rcases h.ok with h0 | ⟨b, o, ha, hc⟩
  · left; simp [h0]
  · right
    refine ⟨b, o, ha, fun i hi => ?_⟩
    rw [List.getElem_take]
    exact hc i (by simp at hi; omega)
theorem IntS.dropN {w : World} {b o : Nat} {l : List Int} (h : IntS w (some ⟨b, o, none⟩) l) (n : Nat) : IntS w (some ⟨b, o + n, none⟩) (l.drop n) := by
  refine ⟨by have := h.big; simp; omega, ?_⟩
  rcases h.ok with h0 | ⟨b', o', ha, hc⟩
  · left; simp [h0]
  · cases ha
    right
    refine ⟨b, o + n, rfl, fun i hi => ?_⟩
    rw [List.getElem_drop]
    have := hc (n + i) (by simp at hi; omega)
    rwa [show o + (n + i) = o + n + i by omega] at this
/-- Run at picks with one of nobody put in. -/
theorem run_ins (p : List (List Ev)) (l M : List Int) (m : Int) (k : Nat) (hM : M = l.take k ++ m :: l.drop k) (hm : m < 0 ∨ (p.length : Int) ≤ m) (hl : l.length ≤ 99) (n : Nat) (hn : M.length = n) (a ap : Option Addr) (c cp : Nat) (w : World) (h : PgS w a p) (hq : IntS w ap M) :
    Calls Try.prog 17 #[.slice a p.length c, .slice ap n cp] w (RunPost p l w) := by
  have hlen : M.length = l.length + 1 := by rw [hM]; simp; omega
  have he : errR p M.length = errR p l.length := by
    unfold errR
    rw [hlen, if_neg (show ¬ 100 < l.length + 1 by omega), if_neg (show ¬ 100 < l.length by omega)]
  have hr : runP p M = runP p l := by rw [hM, runP_insert hm, List.take_append_drop]
  have h1 : endR p M = endR p l := by unfold endR; rw [he, hr]
  have h2 : evR p M = evR p l := by unfold evR; rw [he, hr]
  subst hn
  have := run_any p M a ap c cp w h hq
  unfold RunPost at this ⊢
  rwa [h1, h2, he] at this
theorem EvS.setRow {w : World} {a : Option Addr} {l : List Ev} {B b : Nat} (h : EvS w a l) (hn : ∀ x : Addr, a = some x → B ≤ x.block) (hb : b < B) (cs : Array Value) : EvS (w.setRow b cs) a l := by
  refine ⟨h.big, ?_⟩
  rcases h.ok with h0 | ⟨b', o', ha, hc⟩
  · exact .inl h0
  · right
    refine ⟨b', o', ha, fun i hi => ?_⟩
    have hne : b' ≠ b := by have := hn _ ha; simp only at this; omega
    have hcell : ∀ q, (w.setRow b cs).cell? ⟨b', q, none⟩ = w.cell? ⟨b', q, none⟩ := fun q => by
      unfold World.cell?
      have : (w.setRow b cs).heap[b']? = w.heap[b']? := by simp only [World.setRow, Array.getElem?_modify]; rw [if_neg (fun e => hne e.symm)]
      rw [this]
    simp only [hcell]
    exact hc i hi
theorem newB (u : World) (m : Int) : IntS (u.alloc (.cells #[.int .i64 m] 3)) (some ⟨u.heap.size, 0, none⟩) [m] := intS_full (l := [m]) (Has.new u _ _) rfl (by simp)
theorem newB2 (u : World) (o : Obj) (m : Int) : IntS ((u.alloc o).alloc (.cells #[.int .i64 m] 3)) (some ⟨u.heap.size + 1, 0, none⟩) [m] := intS_full (l := [m]) ((Has.new (u.alloc o) #[.int .i64 m] 3).at (by simp)) rfl (by simp)
theorem newBA (u : World) (o : Obj) (m : Int) : IntS ((u.alloc (.cells #[.int .i64 m] 3)).alloc o) (some ⟨u.heap.size, 0, none⟩) [m] := (newB u m).below ((Below.refl _ _).alloc (Nat.le_refl _) _)
theorem IntS.drewn {w : World} {a : Option Addr} {l : List Int} (h : IntS w a l) : IntS w.drew a l := h.below (Below.refl _ _).drew
theorem src_one {w : World} {a : Option Addr} {m : Int} (h : IntS w a [m]) : Src w 1 a 1 (ints [m]) := h.src
/-- A block for an end, from B on. -/
structure ZL (B : Nat) (w : World) (b : Nat) : Prop where
  out : ∃ old, Has w b old endT ∧ old.size = 20
  ge : B ≤ b
section
variable {w w' : World} {B b : Nat}
theorem ZL.lt (h : ZL B w b) : b < w.heap.size := by obtain ⟨_, h1, _⟩ := h.out; exact h1.lt
theorem ZL.below (h : ZL B w b) (k : Below w.heap.size w w') : ZL B w' b := by obtain ⟨o, h1, h2⟩ := h.out; exact ⟨⟨o, h1.below k h1.lt, h2⟩, h.ge⟩
theorem ZL.run (k : Below w.heap.size w w') (h : ZL B w b) : ZL B w' b ∧ b < w.heap.size := ⟨h.below k, h.lt⟩
theorem ZL.alloc (h : ZL B w b) (o : Obj) : ZL B (w.alloc o) b := h.below ((Below.refl _ _).alloc (Nat.le_refl _) _)
theorem ZL.new (u : World) (cs : Array Value) (h : cs.size = 20) (hB : B ≤ u.heap.size) : ZL B (u.alloc (.cells cs endT)) u.heap.size := ⟨⟨cs, Has.new u cs endT, h⟩, hB⟩
theorem ZL.new2 (u : World) (o : Obj) (cs : Array Value) (h : cs.size = 20) (hB : B ≤ u.heap.size) : ZL B ((u.alloc o).alloc (.cells cs endT)) (u.heap.size + 1) := ⟨⟨cs, (Has.new (u.alloc o) cs endT).at (by simp), h⟩, by omega⟩
theorem ZL.drewn (h : ZL B w b) : ZL B w.drew b := h.below (Below.refl _ _).drew
theorem ZL.app {base e size n n' : Nat} {v v' : Value} {xs ys : List Value} (h : ZL B w b) (hA : Appended w w' base e size v v' n xs) (ho : w.ownsRow base e size v n' ys) (he : endT ≠ e) : ZL B w' b := by
  obtain ⟨o, h1, h2⟩ := h.out
  exact ⟨⟨o, h1.grown hA.grown (h1.not_own ho he), h2⟩, h.ge⟩
theorem ZL.setRow (h : ZL B w b) (cs : Array Value) : Has (w.setRow b cs) b cs endT := by obtain ⟨o, h1, _⟩ := h.out; exact h1.setRow
end
theorem store_zl {P : Program} (w : World) {ops : Array Oper} {o : Oper} {a : Act} {K : Act → World → Prop} {Q : Exit → Act → World → Prop} {E : Prop} (hgd : o.guard = none) (x y : Operand) (ho : o.op = .store endT x y)
    {B g : Nat} {cells : Array Value} (hx : a.eval x = .pointer (some ⟨g, 0, none⟩)) (hy : a.eval y = .agg cells) (hz : ZL B w g) (hi : (P.info? endT).map (·.size) = some cells.size) (hs : cells.size = 20) (h1 : cells.all (·.oneCell') = true)
    (h : ∀ w', ZL B w g → w' = w.setRow g cells → K (a.put o.dst undef) w') :
    if Region.wanted o (yielded ops a.tmps) = true then Oper.wp P o a w K Q else E := by
  obtain ⟨old, hg, hold⟩ := hz.out
  exact store_row_step w hgd endT x y ho hx hy hg hi (by rw [hold, hs]) h1 fun w' e => h w' hz e
theorem ZL.store {P : Program} {w : World} {B b : Nat} (h : ZL B w b) {Y : Array Value} (hs : Y.size = 20) (h1 : Y.all (·.oneCell') = true) : ∃ uS, (storeCells ⟨b, 0, none⟩ Y.toList).run P w = .ok () uS ∧ uS = w.setRow b Y := by
  obtain ⟨old, hg, ho⟩ := h.out
  refine ⟨_, ?_, rfl⟩
  have := run_storeCells_from (P := P) b endT Y.toList 0 old w hg.out (by simp; omega) (fun v hv => (Array.all_eq_true_iff_forall_mem.1 h1) v (by simpa using hv))
  simpa using this
theorem EvS.setNew {u : World} {a : Option Addr} {l : List Ev} (h : EvS u a l) (o : Obj) (cs : Array Value) : EvS ((u.alloc o).setRow u.heap.size cs) a l := by
  refine ⟨h.big, ?_⟩
  rcases h.ok with h0 | ⟨b', o', ha, hc⟩
  · exact .inl h0
  · right
    refine ⟨b', o', ha, fun i hi => ?_⟩
    obtain ⟨c0, c1, c2⟩ := hc i hi
    have hb : Below u.heap.size u ((u.alloc o).setRow u.heap.size cs) := below_setRow ((Below.refl _ _).alloc (Nat.le_refl _) _) (Nat.le_refl _)
    exact ⟨(hb.cell (World.block_lt_of_cell? u _ c0)).trans c0, (hb.cell (World.block_lt_of_cell? u _ c1)).trans c1, (hb.cell (World.block_lt_of_cell? u _ c2)).trans c2⟩
/-- What the region leaves. -/
def PickR (w : World) (L : List Ev) (ER : Int) (Y : Array Value) (BY : Nat) (a2 : Option Addr) (x y z : Value) (wz : World) : Prop :=
  ∃ (bL : Nat) (a5 : Option Addr) (c5 : Nat), x = .pointer (some ⟨bL, 0, none⟩) ∧ y = .slice a5 L.length c5 ∧ z = .int .i64 ER ∧ Has wz bL Y endT ∧ Has wz BY Y endT ∧ EvS wz a2 L ∧ EvS wz a5 L ∧ Below w.heap.size w wz
theorem infoEnd : ∃ i, Try.prog.info? endT = some i ∧ i.zero = some (.agg (endC PS.zero false false)) := by
  have h : (Try.prog.info? endT).map (·.zero) = some (some (.agg (endC PS.zero false false))) := by kernel_rfl
  cases hi : Try.prog.info? endT with
  | none => rw [hi] at h; cases h
  | some i => rw [hi] at h; exact ⟨i, rfl, by simpa using h⟩
theorem drop_src {w : World} {ap : Option Addr} {l : List Int} {cp k : Nat} (h : IntS w ap l) (hc : l.length ≤ cp) (hk : k ≤ l.length) :
    Src w 1 (if cp = k then ap else ap.map (·.add k)) (l.length - k) (ints (l.drop k)) := by
  have hlen : (ints (l.drop k)).length = l.length - k := by simp
  refine ⟨by rw [hlen, Nat.mul_one], ?_⟩
  by_cases e : k = l.length
  · subst e
    exact .inl ⟨by simp, by omega⟩
  · rw [if_neg (show ¬ cp = k by omega)]
    rcases h.ok with h0 | ⟨b, o, ha, hc2⟩
    · exact absurd (show k = l.length by rw [h0] at hk ⊢; simpa using hk) e
    · subst ha
      have h2 := (IntS.dropN h k).src.ok
      rcases h2 with ⟨h3, h4⟩ | ⟨ad, h3, h4⟩
      · exact .inl ⟨h3, by simpa using h4⟩
      · right
        cases h3
        refine ⟨_, rfl, ?_⟩
        have hadd : (⟨b, o, none⟩ : Addr).add k = ⟨b, o + k, none⟩ := by unfold Addr.add; split <;> simp_all
        show ∀ j u, (ints (l.drop k))[j]? = some u → w.cell? (((⟨b, o, none⟩ : Addr).add k).add j) = some u
        rw [hadd]
        exact h4
theorem ints_one (l : List Int) : ∀ u ∈ ints l, u.oneCell' = true := by
  intro u hu
  obtain ⟨n, _, rfl⟩ := List.mem_map.1 hu
  rfl

set_option maxRecDepth 100000 in
set_option maxHeartbeats 16000000 in
theorem progPicks_walk (a : Option Addr) (p : List (List Ev)) (c : Nat) (ap : Option Addr) (l : List Int) (cp : Nat) (n t : Int) (w : World) (hp : PgS w a p ∧ (p.length ≤ c ∧ p.length * 24 ≤ 140737488351232) ∧ ∀ z ∈ p, ∀ e ∈ z, I64 e.k ∧ I64 e.t ∧ I64 e.o) (hl : IntS w ap l ∧ l.length ≤ cp ∧ l.length * 8 ≤ 140737488351232 ∧ ∀ n ∈ l, I64 n) (_ : I64 n) (_ : I64 t) :
    Calls Try.prog 3 #[.slice a p.length c, .slice ap l.length cp, .int .i64 n, .int .i64 t] w fun e w' => e = .returned (.bool true) ∧ Below w.heap.size w w' := by
  have h := hp.1
  have hq := hl.1
  have hbig := hq.big
  have hlc := hl.2.1
  have hpc := hp.2.1.2
  have q0 := Int.emod_nonneg t (show (l.length : Int) + 1 ≠ 0 by omega)
  have q1 := Int.emod_lt_of_pos t (show 0 < (l.length : Int) + 1 by omega)
  obtain ⟨k, hk⟩ := Int.eq_ofNat_of_zero_le q0
  have hkz : k ≤ l.length := by omega
  have HK := Lib.hid hk
  have HT := Lib.hid (show (l.take k).length = k by simp; omega)
  have HD := Lib.hid (show (l.drop k).length = l.length - k by simp)
  clear hp hl hk q0 q1
  obtain ⟨i0, hi, hz0, hz1, hz2⟩ := info_parts infoI
  obtain ⟨iE, hiE, hzE⟩ := infoEnd
  by_cases h99 : l.length ≤ 99
  · have g1 : decide ((l.length : Int) > 99) = false := decide_eq_false (by omega)
    have g2 : decide (99 < l.length) = false := decide_eq_false (by omega)
    go_enter Try.func3, Try.ntmps3
    go_wp2_with fail
    refine (ran_any _).mono ?_
    rintro r w1 ⟨rfl, hb1⟩
    go_wp2_with fail
    refine (rest_any t ((l.length : Int) + 1) _ (by omega) (by omega)).mono ?_
    rintro r wq ⟨rfl, hw⟩
    rw [hw]
    clear hw
    rw [HK.out]
    go_upto_region 6 with fail
    go_cut [32] (fun v wz => v = .bool (decide (0 ≤ n) && decide (n < (p.length : Int))) ∧ wz = w1)
    case first =>
      by_cases s1 : 0 ≤ n
      · have s2 : decide (0 ≤ n) = true := decide_eq_true s1
        have s3 : decide (n ≥ 0) = true := decide_eq_true s1
        go_wp2
        go_meet
        exact ⟨by rw [s2]; rfl, rfl⟩
      · have s2 : decide (0 ≤ n) = false := decide_eq_false s1
        have s3 : decide (n ≥ 0) = false := decide_eq_false s1
        go_wp2
        go_meet
        exact ⟨by rw [s2]; rfl, rfl⟩
    case rest =>
      obtain ⟨rfl, hwc⟩ := hcut
      subst hwc
      go_upto_if 32 with fail
      go_cut [2] (fun v wz => (∃ m : Int, v = .int .i64 m ∧ (m < 0 ∨ (p.length : Int) ≤ m)) ∧ wz = wc)
      case first =>
        by_cases s1 : 0 ≤ n ∧ n < (p.length : Int)
        · have s2 : (decide (0 ≤ n) && decide (n < (p.length : Int))) = true := by rw [decide_eq_true s1.1, decide_eq_true s1.2]; rfl
          go_wp2
          go_meet
          exact ⟨⟨-1, rfl, .inl (by decide)⟩, rfl⟩
        · have s2 : (decide (0 ≤ n) && decide (n < (p.length : Int))) = false := by
            rcases Int.lt_or_le n 0 with e | e
            · rw [decide_eq_false (by omega)]; rfl
            · rw [decide_eq_false (show ¬ n < (p.length : Int) by omega), Bool.and_false]
          go_wp2
          go_meet
          exact ⟨⟨n, rfl, by omega⟩, rfl⟩
      case rest =>
        obtain ⟨⟨m, rfl, hm⟩, hwc⟩ := hcut
        subst hwc
        go_wp2_with fail
        refine (run_any p l a ap c cp _ (h.below hb1) (hq.below hb1)).mono ?_
        rintro r w2 ⟨a2, c2, ⟨hc2, _⟩, rfl, hL, hk⟩
        have hb2 := hb1.trans (hk.mono hb1.size)
        have HS := Lib.hid (endR_size p l)
        have H1 := Lib.hid (endR_one p l)
        obtain ⟨M, hM⟩ : ∃ M, M = l.take k ++ m :: l.drop k := ⟨_, rfl⟩
        have HRUN := Lib.hid (fun n hn a ap c cp w => run_ins p l M m k hM hm h99 n hn a ap c cp w)
        have HM := Lib.hid hM
        have HML := Lib.hid (show M.length = 0 + k + 1 + (l.length - k) by rw [hM]; simp; omega)
        have HMI := Lib.hid (show ints M = [] ++ ints (l.take k) ++ ints [m] ++ ints (l.drop k) by rw [hM]; simp)
        have HEQ := Lib.hid (eql_endR p l)
        obtain ⟨Y, hY⟩ : ∃ Y, endR p l = Y := ⟨_, rfl⟩
        rw [hY] at HS H1 HEQ ⊢
        have HRUN2 := Lib.hid (show ∀ (A : Option Addr) (C : Nat) (W : World), PgS W a p → IntS W A M → Calls Try.prog 17 #[.slice a p.length c, .slice A M.length C] W fun r w' => ∃ a c, ((evR p l).length ≤ c ∧ ∀ x : Addr, a = some x → W.heap.size ≤ x.block) ∧ r = .returned (.tuple #[.agg Y, .slice a (evR p l).length c, .int .i64 (errR p l.length)]) ∧ EvS w' a (evR p l) ∧ Below W.heap.size W w' from fun A C W h1 h2 => by
          have := HRUN.out M.length rfl a A c C W h1 h2
          unfold RunPost at this
          rwa [hY] at this)
        have hs2 := hb2.size
        clear hY hk hb1 hM HRUN hm
        generalize errR p l.length = ER at *
        generalize evR p l = L at *
        go_wp2_with (refine wpList_store_row rfl endT _ _ rfl w2.heap.size Y rfl rfl endT _ ((Has.new w2 (endC PS.zero false false) endT)).out (by rw [HS.out]; rfl) (by rw [HS.out, endC_size]) H1.out ?_
                     generalize hWx : World.setRow _ _ _ = W3
                     have hZ3 : Has W3 w2.heap.size Y endT := by rw [← hWx]; exact (Has.new w2 (endC PS.zero false false) endT).setRow
                     have hk3 : Below w2.heap.size w2 W3 := by rw [← hWx]; exact below_setRow ((Below.refl _ _).alloc (Nat.le_refl _) _) (Nat.le_refl _)
                     have hb3 := hb2.trans (hk3.mono hb2.size)
                     clear hWx)
        have hL3 := hL.below (hk3.mono (Nat.le_refl _))
        have hs3 := hb3.size
        have hP3 := h.below hb3
        have hQ3 := hq.below hb3
        clear hb2 hk3 hL hs2
        generalize w2.heap.size = BY at *
        have hlT := HT.out
        have S1 : Src W3 1 ap k (ints (l.take k)) := by have := (hQ3.takeN k).src; rwa [hlT] at this
        have S2 := drop_src (cp := cp) hQ3 hlc hkz
        have k1 : (k : Int) ≤ l.length := by omega
        have k2 : (k : Int) ≤ cp := by omega
        have k0 : (0 : Int) ≤ k := by omega
        have kk0 := Below.refl W3.heap.size W3
        have kk := (Below.refl W3.heap.size W3).drew
        have hsp : (Try.prog.info? endT).map (·.size) = some Y.size := by rw [HS.out]; rfl
        go_upto_region 9 with fail
        go_cut [12, 13, 14] (PickR w L ER Y BY a2)
        case first =>
         go_region_law (first
          | (refine app_stepF _ (fun W => IntS W (some ⟨W3.heap.size, 0, none⟩) [m] ∧ ZL W3.heap.size W (W3.heap.size + 1)) (by with_reducible exact ⟨(newBA W3 _ m).drewn, (ZL.new2 W3 _ _ (by simp) (Nat.le_refl _)).drewn⟩) rfl (.const (.slice none 0 0)) (.tmp 44) 23 rfl Try.underlying23 hi hz0 hz1 hz2 rfl (by decide) (v := .slice none 0 0) (n := 0) (xs := []) rfl (World.ownsRow_nil _ W3.heap.size _ _) (by conv => lhs; simp [go_sem]) (S1.below (by first | (with_reducible exact kk) | (with_reducible exact (kk0.alloc kk0.size _).drew) | (with_reducible exact ((kk0.alloc kk0.size _).alloc (by have hks := kk.size; first | (with_reducible exact hks) | (simp; done) | (simp; omega)) _).drew) | (with_reducible exact kk.alloc kk.size _) | (with_reducible exact (kk.alloc kk.size _).alloc (by have hks := kk.size; first | (with_reducible exact hks) | (simp; done) | (simp; omega)) _))) (ints_one _) (by unfold maxLen; omega) (by omega) (by have hks := kk.size; first | (with_reducible exact hks) | (simp; done) | (simp; omega)) ?_
             intro v1 u1 hF hA1
             have f1 := hA1.fresh
             have o1 := hA1.own
             obtain ⟨hFP, hFQ⟩ := hF
             try have sB := IntS.below hFP f1
             try have zL := ZL.below hFQ f1
             have kk : Below W3.heap.size W3 u1 := Below.trans (by first | (with_reducible exact kk) | (with_reducible exact (kk0.alloc kk0.size _).drew) | (with_reducible exact ((kk0.alloc kk0.size _).alloc (by have hks := kk.size; first | (with_reducible exact hks) | (simp; done) | (simp; omega)) _).drew) | (with_reducible exact kk.alloc kk.size _) | (with_reducible exact (kk.alloc kk.size _).alloc (by have hks := kk.size; first | (with_reducible exact hks) | (simp; done) | (simp; omega)) _)) (f1.mono (by have hks := kk.size; first | (with_reducible exact hks) | (simp; done) | (simp; omega)))
             clear hA1 f1 hFP hFQ)
          | (refine app_stepF _ (fun W => IntS W (some ⟨W3.heap.size + 1, 0, none⟩) [m] ∧ ZL W3.heap.size W W3.heap.size) (by with_reducible exact ⟨(newB2 W3 _ m).drewn, ((ZL.new W3 _ (by simp) (Nat.le_refl _)).alloc _).drewn⟩) rfl (.const (.slice none 0 0)) (.tmp 44) 23 rfl Try.underlying23 hi hz0 hz1 hz2 rfl (by decide) (v := .slice none 0 0) (n := 0) (xs := []) rfl (World.ownsRow_nil _ W3.heap.size _ _) (by conv => lhs; simp [go_sem]) (S1.below (by first | (with_reducible exact kk) | (with_reducible exact (kk0.alloc kk0.size _).drew) | (with_reducible exact ((kk0.alloc kk0.size _).alloc (by have hks := kk.size; first | (with_reducible exact hks) | (simp; done) | (simp; omega)) _).drew) | (with_reducible exact kk.alloc kk.size _) | (with_reducible exact (kk.alloc kk.size _).alloc (by have hks := kk.size; first | (with_reducible exact hks) | (simp; done) | (simp; omega)) _))) (ints_one _) (by unfold maxLen; omega) (by omega) (by have hks := kk.size; first | (with_reducible exact hks) | (simp; done) | (simp; omega)) ?_
             intro v1 u1 hF hA1
             have f1 := hA1.fresh
             have o1 := hA1.own
             obtain ⟨hFP, hFQ⟩ := hF
             try have sB := IntS.below hFP f1
             try have zL := ZL.below hFQ f1
             have kk : Below W3.heap.size W3 u1 := Below.trans (by first | (with_reducible exact kk) | (with_reducible exact (kk0.alloc kk0.size _).drew) | (with_reducible exact ((kk0.alloc kk0.size _).alloc (by have hks := kk.size; first | (with_reducible exact hks) | (simp; done) | (simp; omega)) _).drew) | (with_reducible exact kk.alloc kk.size _) | (with_reducible exact (kk.alloc kk.size _).alloc (by have hks := kk.size; first | (with_reducible exact hks) | (simp; done) | (simp; omega)) _)) (f1.mono (by have hks := kk.size; first | (with_reducible exact hks) | (simp; done) | (simp; omega)))
             clear hA1 f1 hFP hFQ)
          | (refine app_stepF _ (fun W => IntS W (some ⟨W3.heap.size, 0, none⟩) [m] ∧ True) (by with_reducible exact ⟨(newB W3 m).drewn, trivial⟩) rfl (.const (.slice none 0 0)) (.tmp 44) 23 rfl Try.underlying23 hi hz0 hz1 hz2 rfl (by decide) (v := .slice none 0 0) (n := 0) (xs := []) rfl (World.ownsRow_nil _ W3.heap.size _ _) (by conv => lhs; simp [go_sem]) (S1.below (by first | (with_reducible exact kk) | (with_reducible exact (kk0.alloc kk0.size _).drew) | (with_reducible exact ((kk0.alloc kk0.size _).alloc (by have hks := kk.size; first | (with_reducible exact hks) | (simp; done) | (simp; omega)) _).drew) | (with_reducible exact kk.alloc kk.size _) | (with_reducible exact (kk.alloc kk.size _).alloc (by have hks := kk.size; first | (with_reducible exact hks) | (simp; done) | (simp; omega)) _))) (ints_one _) (by unfold maxLen; omega) (by omega) (by have hks := kk.size; first | (with_reducible exact hks) | (simp; done) | (simp; omega)) ?_
             intro v1 u1 hF hA1
             have f1 := hA1.fresh
             have o1 := hA1.own
             obtain ⟨hFP, hFQ⟩ := hF
             try have sB := IntS.below hFP f1
             try have zL := ZL.below hFQ f1
             have kk : Below W3.heap.size W3 u1 := Below.trans (by first | (with_reducible exact kk) | (with_reducible exact (kk0.alloc kk0.size _).drew) | (with_reducible exact ((kk0.alloc kk0.size _).alloc (by have hks := kk.size; first | (with_reducible exact hks) | (simp; done) | (simp; omega)) _).drew) | (with_reducible exact kk.alloc kk.size _) | (with_reducible exact (kk.alloc kk.size _).alloc (by have hks := kk.size; first | (with_reducible exact hks) | (simp; done) | (simp; omega)) _)) (f1.mono (by have hks := kk.size; first | (with_reducible exact hks) | (simp; done) | (simp; omega)))
             clear hA1 f1 hFP hFQ)
          | (refine app_stepF _ (fun W => True ∧ ZL W3.heap.size W W3.heap.size) (by with_reducible exact ⟨trivial, (ZL.new W3 _ (by simp) (Nat.le_refl _)).drewn⟩) rfl (.const (.slice none 0 0)) (.tmp 44) 23 rfl Try.underlying23 hi hz0 hz1 hz2 rfl (by decide) (v := .slice none 0 0) (n := 0) (xs := []) rfl (World.ownsRow_nil _ W3.heap.size _ _) (by conv => lhs; simp [go_sem]) (S1.below (by first | (with_reducible exact kk) | (with_reducible exact (kk0.alloc kk0.size _).drew) | (with_reducible exact ((kk0.alloc kk0.size _).alloc (by have hks := kk.size; first | (with_reducible exact hks) | (simp; done) | (simp; omega)) _).drew) | (with_reducible exact kk.alloc kk.size _) | (with_reducible exact (kk.alloc kk.size _).alloc (by have hks := kk.size; first | (with_reducible exact hks) | (simp; done) | (simp; omega)) _))) (ints_one _) (by unfold maxLen; omega) (by omega) (by have hks := kk.size; first | (with_reducible exact hks) | (simp; done) | (simp; omega)) ?_
             intro v1 u1 hF hA1
             have f1 := hA1.fresh
             have o1 := hA1.own
             obtain ⟨hFP, hFQ⟩ := hF
             try have sB := IntS.below hFP f1
             try have zL := ZL.below hFQ f1
             have kk : Below W3.heap.size W3 u1 := Below.trans (by first | (with_reducible exact kk) | (with_reducible exact (kk0.alloc kk0.size _).drew) | (with_reducible exact ((kk0.alloc kk0.size _).alloc (by have hks := kk.size; first | (with_reducible exact hks) | (simp; done) | (simp; omega)) _).drew) | (with_reducible exact kk.alloc kk.size _) | (with_reducible exact (kk.alloc kk.size _).alloc (by have hks := kk.size; first | (with_reducible exact hks) | (simp; done) | (simp; omega)) _)) (f1.mono (by have hks := kk.size; first | (with_reducible exact hks) | (simp; done) | (simp; omega)))
             clear hA1 f1 hFP hFQ)
          | (refine app_stepF _ (fun W => True ∧ True) (by with_reducible exact ⟨trivial, trivial⟩) rfl (.const (.slice none 0 0)) (.tmp 44) 23 rfl Try.underlying23 hi hz0 hz1 hz2 rfl (by decide) (v := .slice none 0 0) (n := 0) (xs := []) rfl (World.ownsRow_nil _ W3.heap.size _ _) (by conv => lhs; simp [go_sem]) (S1.below (by first | (with_reducible exact kk) | (with_reducible exact (kk0.alloc kk0.size _).drew) | (with_reducible exact ((kk0.alloc kk0.size _).alloc (by have hks := kk.size; first | (with_reducible exact hks) | (simp; done) | (simp; omega)) _).drew) | (with_reducible exact kk.alloc kk.size _) | (with_reducible exact (kk.alloc kk.size _).alloc (by have hks := kk.size; first | (with_reducible exact hks) | (simp; done) | (simp; omega)) _))) (ints_one _) (by unfold maxLen; omega) (by omega) (by have hks := kk.size; first | (with_reducible exact hks) | (simp; done) | (simp; omega)) ?_
             intro v1 u1 hF hA1
             have f1 := hA1.fresh
             have o1 := hA1.own
             obtain ⟨hFP, hFQ⟩ := hF
             try have sB := IntS.below hFP f1
             try have zL := ZL.below hFQ f1
             have kk : Below W3.heap.size W3 u1 := Below.trans (by first | (with_reducible exact kk) | (with_reducible exact (kk0.alloc kk0.size _).drew) | (with_reducible exact ((kk0.alloc kk0.size _).alloc (by have hks := kk.size; first | (with_reducible exact hks) | (simp; done) | (simp; omega)) _).drew) | (with_reducible exact kk.alloc kk.size _) | (with_reducible exact (kk.alloc kk.size _).alloc (by have hks := kk.size; first | (with_reducible exact hks) | (simp; done) | (simp; omega)) _)) (f1.mono (by have hks := kk.size; first | (with_reducible exact hks) | (simp; done) | (simp; omega)))
             clear hA1 f1 hFP hFQ)
          | (refine app_stepF _ (fun W => ZL W3.heap.size W _) (by with_reducible exact zL) rfl (.tmp 45) (.tmp 47) 23 rfl Try.underlying23 hi hz0 hz1 hz2 rfl (by decide) (by conv => lhs; simp [go_sem]) (by first | (with_reducible exact o1) | (with_reducible exact o1.alloc _) | (with_reducible exact (o1.alloc _).alloc _)) (by conv => lhs; simp [go_sem]) (by first | (with_reducible exact src_one sB) | (with_reducible exact src_one (sB.below ((Below.refl _ _).alloc (Nat.le_refl _) _))) | (with_reducible exact src_one (newB u1 m)) | (with_reducible exact src_one (newBA u1 _ m)) | (with_reducible exact src_one (newB2 u1 _ m))) (ints_one _) (by unfold maxLen; simp; omega) (by simp; omega) (by have hks := kk.size; first | (with_reducible exact hks) | (simp; done) | (simp; omega)) ?_
             intro v2 u2 hF hA2
             try have zL := ZL.app hF hA2 (by first | (with_reducible exact o1) | (with_reducible exact o1.alloc _) | (with_reducible exact (o1.alloc _).alloc _)) (by decide)
             have kk : Below W3.heap.size W3 u2 := hA2.below (by first | (with_reducible exact o1) | (with_reducible exact o1.alloc _) | (with_reducible exact (o1.alloc _).alloc _)) (by first | (with_reducible exact kk) | (with_reducible exact kk.alloc kk.size _) | (with_reducible exact (kk.alloc kk.size _).alloc (by have hks := kk.size; first | (with_reducible exact hks) | (simp; done) | (simp; omega)) _)) (by have hks := kk.size; first | (with_reducible exact hks) | (simp; done) | (simp; omega))
             have o2 := hA2.own
             clear hA2 o1 hF)
          | (refine app_stepF _ (fun W => ZL W3.heap.size W _) (by with_reducible exact zL.alloc _) rfl (.tmp 45) (.tmp 47) 23 rfl Try.underlying23 hi hz0 hz1 hz2 rfl (by decide) (by conv => lhs; simp [go_sem]) (by first | (with_reducible exact o1) | (with_reducible exact o1.alloc _) | (with_reducible exact (o1.alloc _).alloc _)) (by conv => lhs; simp [go_sem]) (by first | (with_reducible exact src_one sB) | (with_reducible exact src_one (sB.below ((Below.refl _ _).alloc (Nat.le_refl _) _))) | (with_reducible exact src_one (newB u1 m)) | (with_reducible exact src_one (newBA u1 _ m)) | (with_reducible exact src_one (newB2 u1 _ m))) (ints_one _) (by unfold maxLen; simp; omega) (by simp; omega) (by have hks := kk.size; first | (with_reducible exact hks) | (simp; done) | (simp; omega)) ?_
             intro v2 u2 hF hA2
             try have zL := ZL.app hF hA2 (by first | (with_reducible exact o1) | (with_reducible exact o1.alloc _) | (with_reducible exact (o1.alloc _).alloc _)) (by decide)
             have kk : Below W3.heap.size W3 u2 := hA2.below (by first | (with_reducible exact o1) | (with_reducible exact o1.alloc _) | (with_reducible exact (o1.alloc _).alloc _)) (by first | (with_reducible exact kk) | (with_reducible exact kk.alloc kk.size _) | (with_reducible exact (kk.alloc kk.size _).alloc (by have hks := kk.size; first | (with_reducible exact hks) | (simp; done) | (simp; omega)) _)) (by have hks := kk.size; first | (with_reducible exact hks) | (simp; done) | (simp; omega))
             have o2 := hA2.own
             clear hA2 o1 hF)
          | (refine app_stepF _ (fun W => ZL W3.heap.size W u1.heap.size) (by with_reducible exact ZL.new u1 _ (by simp) kk.size) rfl (.tmp 45) (.tmp 47) 23 rfl Try.underlying23 hi hz0 hz1 hz2 rfl (by decide) (by conv => lhs; simp [go_sem]) (by first | (with_reducible exact o1) | (with_reducible exact o1.alloc _) | (with_reducible exact (o1.alloc _).alloc _)) (by conv => lhs; simp [go_sem]) (by first | (with_reducible exact src_one sB) | (with_reducible exact src_one (sB.below ((Below.refl _ _).alloc (Nat.le_refl _) _))) | (with_reducible exact src_one (newB u1 m)) | (with_reducible exact src_one (newBA u1 _ m)) | (with_reducible exact src_one (newB2 u1 _ m))) (ints_one _) (by unfold maxLen; simp; omega) (by simp; omega) (by have hks := kk.size; first | (with_reducible exact hks) | (simp; done) | (simp; omega)) ?_
             intro v2 u2 hF hA2
             try have zL := ZL.app hF hA2 (by first | (with_reducible exact o1) | (with_reducible exact o1.alloc _) | (with_reducible exact (o1.alloc _).alloc _)) (by decide)
             have kk : Below W3.heap.size W3 u2 := hA2.below (by first | (with_reducible exact o1) | (with_reducible exact o1.alloc _) | (with_reducible exact (o1.alloc _).alloc _)) (by first | (with_reducible exact kk) | (with_reducible exact kk.alloc kk.size _) | (with_reducible exact (kk.alloc kk.size _).alloc (by have hks := kk.size; first | (with_reducible exact hks) | (simp; done) | (simp; omega)) _)) (by have hks := kk.size; first | (with_reducible exact hks) | (simp; done) | (simp; omega))
             have o2 := hA2.own
             clear hA2 o1 hF)
          | (refine app_stepF _ (fun W => ZL W3.heap.size W (u1.heap.size + 1)) (by with_reducible exact ZL.new2 u1 _ _ (by simp) kk.size) rfl (.tmp 45) (.tmp 47) 23 rfl Try.underlying23 hi hz0 hz1 hz2 rfl (by decide) (by conv => lhs; simp [go_sem]) (by first | (with_reducible exact o1) | (with_reducible exact o1.alloc _) | (with_reducible exact (o1.alloc _).alloc _)) (by conv => lhs; simp [go_sem]) (by first | (with_reducible exact src_one sB) | (with_reducible exact src_one (sB.below ((Below.refl _ _).alloc (Nat.le_refl _) _))) | (with_reducible exact src_one (newB u1 m)) | (with_reducible exact src_one (newBA u1 _ m)) | (with_reducible exact src_one (newB2 u1 _ m))) (ints_one _) (by unfold maxLen; simp; omega) (by simp; omega) (by have hks := kk.size; first | (with_reducible exact hks) | (simp; done) | (simp; omega)) ?_
             intro v2 u2 hF hA2
             try have zL := ZL.app hF hA2 (by first | (with_reducible exact o1) | (with_reducible exact o1.alloc _) | (with_reducible exact (o1.alloc _).alloc _)) (by decide)
             have kk : Below W3.heap.size W3 u2 := hA2.below (by first | (with_reducible exact o1) | (with_reducible exact o1.alloc _) | (with_reducible exact (o1.alloc _).alloc _)) (by first | (with_reducible exact kk) | (with_reducible exact kk.alloc kk.size _) | (with_reducible exact (kk.alloc kk.size _).alloc (by have hks := kk.size; first | (with_reducible exact hks) | (simp; done) | (simp; omega)) _)) (by have hks := kk.size; first | (with_reducible exact hks) | (simp; done) | (simp; omega))
             have o2 := hA2.own
             clear hA2 o1 hF)
          | (refine app_stepF _ (fun W => ZL W3.heap.size W u1.heap.size) (by with_reducible exact (ZL.new u1 _ (by simp) kk.size).alloc _) rfl (.tmp 45) (.tmp 47) 23 rfl Try.underlying23 hi hz0 hz1 hz2 rfl (by decide) (by conv => lhs; simp [go_sem]) (by first | (with_reducible exact o1) | (with_reducible exact o1.alloc _) | (with_reducible exact (o1.alloc _).alloc _)) (by conv => lhs; simp [go_sem]) (by first | (with_reducible exact src_one sB) | (with_reducible exact src_one (sB.below ((Below.refl _ _).alloc (Nat.le_refl _) _))) | (with_reducible exact src_one (newB u1 m)) | (with_reducible exact src_one (newBA u1 _ m)) | (with_reducible exact src_one (newB2 u1 _ m))) (ints_one _) (by unfold maxLen; simp; omega) (by simp; omega) (by have hks := kk.size; first | (with_reducible exact hks) | (simp; done) | (simp; omega)) ?_
             intro v2 u2 hF hA2
             try have zL := ZL.app hF hA2 (by first | (with_reducible exact o1) | (with_reducible exact o1.alloc _) | (with_reducible exact (o1.alloc _).alloc _)) (by decide)
             have kk : Below W3.heap.size W3 u2 := hA2.below (by first | (with_reducible exact o1) | (with_reducible exact o1.alloc _) | (with_reducible exact (o1.alloc _).alloc _)) (by first | (with_reducible exact kk) | (with_reducible exact kk.alloc kk.size _) | (with_reducible exact (kk.alloc kk.size _).alloc (by have hks := kk.size; first | (with_reducible exact hks) | (simp; done) | (simp; omega)) _)) (by have hks := kk.size; first | (with_reducible exact hks) | (simp; done) | (simp; omega))
             have o2 := hA2.own
             clear hA2 o1 hF)
          | (refine app_stepF _ (fun W => True) (by with_reducible exact trivial) rfl (.tmp 45) (.tmp 47) 23 rfl Try.underlying23 hi hz0 hz1 hz2 rfl (by decide) (by conv => lhs; simp [go_sem]) (by first | (with_reducible exact o1) | (with_reducible exact o1.alloc _) | (with_reducible exact (o1.alloc _).alloc _)) (by conv => lhs; simp [go_sem]) (by first | (with_reducible exact src_one sB) | (with_reducible exact src_one (sB.below ((Below.refl _ _).alloc (Nat.le_refl _) _))) | (with_reducible exact src_one (newB u1 m)) | (with_reducible exact src_one (newBA u1 _ m)) | (with_reducible exact src_one (newB2 u1 _ m))) (ints_one _) (by unfold maxLen; simp; omega) (by simp; omega) (by have hks := kk.size; first | (with_reducible exact hks) | (simp; done) | (simp; omega)) ?_
             intro v2 u2 hF hA2
             try have zL := ZL.app hF hA2 (by first | (with_reducible exact o1) | (with_reducible exact o1.alloc _) | (with_reducible exact (o1.alloc _).alloc _)) (by decide)
             have kk : Below W3.heap.size W3 u2 := hA2.below (by first | (with_reducible exact o1) | (with_reducible exact o1.alloc _) | (with_reducible exact (o1.alloc _).alloc _)) (by first | (with_reducible exact kk) | (with_reducible exact kk.alloc kk.size _) | (with_reducible exact (kk.alloc kk.size _).alloc (by have hks := kk.size; first | (with_reducible exact hks) | (simp; done) | (simp; omega)) _)) (by have hks := kk.size; first | (with_reducible exact hks) | (simp; done) | (simp; omega))
             have o2 := hA2.own
             clear hA2 o1 hF)
          | (refine app_stepF _ (fun W => ZL W3.heap.size W _) (by with_reducible exact zL) rfl (.tmp 48) (.tmp 51) 23 rfl Try.underlying23 hi hz0 hz1 hz2 rfl (by decide) (by conv => lhs; simp [go_sem]) (by first | (with_reducible exact o2) | (with_reducible exact o2.alloc _) | (with_reducible exact (o2.alloc _).alloc _)) (by conv => lhs; simp [go_sem]) (S2.below (by first | (with_reducible exact kk) | (with_reducible exact kk.alloc kk.size _) | (with_reducible exact (kk.alloc kk.size _).alloc (by have hks := kk.size; first | (with_reducible exact hks) | (simp; done) | (simp; omega)) _))) (ints_one _) (by unfold maxLen; simp; omega) (by simp; omega) (by have hks := kk.size; first | (with_reducible exact hks) | (simp; done) | (simp; omega)) ?_
             intro v3 u3 hF hA3
             try have zL := ZL.app hF hA3 (by first | (with_reducible exact o2) | (with_reducible exact o2.alloc _) | (with_reducible exact (o2.alloc _).alloc _)) (by decide)
             have kk : Below W3.heap.size W3 u3 := hA3.below (by first | (with_reducible exact o2) | (with_reducible exact o2.alloc _) | (with_reducible exact (o2.alloc _).alloc _)) (by first | (with_reducible exact kk) | (with_reducible exact kk.alloc kk.size _) | (with_reducible exact (kk.alloc kk.size _).alloc (by have hks := kk.size; first | (with_reducible exact hks) | (simp; done) | (simp; omega)) _)) (by have hks := kk.size; first | (with_reducible exact hks) | (simp; done) | (simp; omega))
             have o3 := hA3.own
             rw [← HML.out, ← HMI.out] at o3
             obtain ⟨a7, c7, hv7, sM, _⟩ := intS_own o3 (by rw [HML.out]; omega)
             subst hv7
             clear hA3 o2 hF o3)
          | (refine app_stepF _ (fun W => ZL W3.heap.size W _) (by with_reducible exact zL.alloc _) rfl (.tmp 48) (.tmp 51) 23 rfl Try.underlying23 hi hz0 hz1 hz2 rfl (by decide) (by conv => lhs; simp [go_sem]) (by first | (with_reducible exact o2) | (with_reducible exact o2.alloc _) | (with_reducible exact (o2.alloc _).alloc _)) (by conv => lhs; simp [go_sem]) (S2.below (by first | (with_reducible exact kk) | (with_reducible exact kk.alloc kk.size _) | (with_reducible exact (kk.alloc kk.size _).alloc (by have hks := kk.size; first | (with_reducible exact hks) | (simp; done) | (simp; omega)) _))) (ints_one _) (by unfold maxLen; simp; omega) (by simp; omega) (by have hks := kk.size; first | (with_reducible exact hks) | (simp; done) | (simp; omega)) ?_
             intro v3 u3 hF hA3
             try have zL := ZL.app hF hA3 (by first | (with_reducible exact o2) | (with_reducible exact o2.alloc _) | (with_reducible exact (o2.alloc _).alloc _)) (by decide)
             have kk : Below W3.heap.size W3 u3 := hA3.below (by first | (with_reducible exact o2) | (with_reducible exact o2.alloc _) | (with_reducible exact (o2.alloc _).alloc _)) (by first | (with_reducible exact kk) | (with_reducible exact kk.alloc kk.size _) | (with_reducible exact (kk.alloc kk.size _).alloc (by have hks := kk.size; first | (with_reducible exact hks) | (simp; done) | (simp; omega)) _)) (by have hks := kk.size; first | (with_reducible exact hks) | (simp; done) | (simp; omega))
             have o3 := hA3.own
             rw [← HML.out, ← HMI.out] at o3
             obtain ⟨a7, c7, hv7, sM, _⟩ := intS_own o3 (by rw [HML.out]; omega)
             subst hv7
             clear hA3 o2 hF o3)
          | (refine app_stepF _ (fun W => ZL W3.heap.size W u2.heap.size) (by with_reducible exact ZL.new u2 _ (by simp) kk.size) rfl (.tmp 48) (.tmp 51) 23 rfl Try.underlying23 hi hz0 hz1 hz2 rfl (by decide) (by conv => lhs; simp [go_sem]) (by first | (with_reducible exact o2) | (with_reducible exact o2.alloc _) | (with_reducible exact (o2.alloc _).alloc _)) (by conv => lhs; simp [go_sem]) (S2.below (by first | (with_reducible exact kk) | (with_reducible exact kk.alloc kk.size _) | (with_reducible exact (kk.alloc kk.size _).alloc (by have hks := kk.size; first | (with_reducible exact hks) | (simp; done) | (simp; omega)) _))) (ints_one _) (by unfold maxLen; simp; omega) (by simp; omega) (by have hks := kk.size; first | (with_reducible exact hks) | (simp; done) | (simp; omega)) ?_
             intro v3 u3 hF hA3
             try have zL := ZL.app hF hA3 (by first | (with_reducible exact o2) | (with_reducible exact o2.alloc _) | (with_reducible exact (o2.alloc _).alloc _)) (by decide)
             have kk : Below W3.heap.size W3 u3 := hA3.below (by first | (with_reducible exact o2) | (with_reducible exact o2.alloc _) | (with_reducible exact (o2.alloc _).alloc _)) (by first | (with_reducible exact kk) | (with_reducible exact kk.alloc kk.size _) | (with_reducible exact (kk.alloc kk.size _).alloc (by have hks := kk.size; first | (with_reducible exact hks) | (simp; done) | (simp; omega)) _)) (by have hks := kk.size; first | (with_reducible exact hks) | (simp; done) | (simp; omega))
             have o3 := hA3.own
             rw [← HML.out, ← HMI.out] at o3
             obtain ⟨a7, c7, hv7, sM, _⟩ := intS_own o3 (by rw [HML.out]; omega)
             subst hv7
             clear hA3 o2 hF o3)
          | (refine app_stepF _ (fun W => ZL W3.heap.size W (u2.heap.size + 1)) (by with_reducible exact ZL.new2 u2 _ _ (by simp) kk.size) rfl (.tmp 48) (.tmp 51) 23 rfl Try.underlying23 hi hz0 hz1 hz2 rfl (by decide) (by conv => lhs; simp [go_sem]) (by first | (with_reducible exact o2) | (with_reducible exact o2.alloc _) | (with_reducible exact (o2.alloc _).alloc _)) (by conv => lhs; simp [go_sem]) (S2.below (by first | (with_reducible exact kk) | (with_reducible exact kk.alloc kk.size _) | (with_reducible exact (kk.alloc kk.size _).alloc (by have hks := kk.size; first | (with_reducible exact hks) | (simp; done) | (simp; omega)) _))) (ints_one _) (by unfold maxLen; simp; omega) (by simp; omega) (by have hks := kk.size; first | (with_reducible exact hks) | (simp; done) | (simp; omega)) ?_
             intro v3 u3 hF hA3
             try have zL := ZL.app hF hA3 (by first | (with_reducible exact o2) | (with_reducible exact o2.alloc _) | (with_reducible exact (o2.alloc _).alloc _)) (by decide)
             have kk : Below W3.heap.size W3 u3 := hA3.below (by first | (with_reducible exact o2) | (with_reducible exact o2.alloc _) | (with_reducible exact (o2.alloc _).alloc _)) (by first | (with_reducible exact kk) | (with_reducible exact kk.alloc kk.size _) | (with_reducible exact (kk.alloc kk.size _).alloc (by have hks := kk.size; first | (with_reducible exact hks) | (simp; done) | (simp; omega)) _)) (by have hks := kk.size; first | (with_reducible exact hks) | (simp; done) | (simp; omega))
             have o3 := hA3.own
             rw [← HML.out, ← HMI.out] at o3
             obtain ⟨a7, c7, hv7, sM, _⟩ := intS_own o3 (by rw [HML.out]; omega)
             subst hv7
             clear hA3 o2 hF o3)
          | (refine app_stepF _ (fun W => ZL W3.heap.size W u2.heap.size) (by with_reducible exact (ZL.new u2 _ (by simp) kk.size).alloc _) rfl (.tmp 48) (.tmp 51) 23 rfl Try.underlying23 hi hz0 hz1 hz2 rfl (by decide) (by conv => lhs; simp [go_sem]) (by first | (with_reducible exact o2) | (with_reducible exact o2.alloc _) | (with_reducible exact (o2.alloc _).alloc _)) (by conv => lhs; simp [go_sem]) (S2.below (by first | (with_reducible exact kk) | (with_reducible exact kk.alloc kk.size _) | (with_reducible exact (kk.alloc kk.size _).alloc (by have hks := kk.size; first | (with_reducible exact hks) | (simp; done) | (simp; omega)) _))) (ints_one _) (by unfold maxLen; simp; omega) (by simp; omega) (by have hks := kk.size; first | (with_reducible exact hks) | (simp; done) | (simp; omega)) ?_
             intro v3 u3 hF hA3
             try have zL := ZL.app hF hA3 (by first | (with_reducible exact o2) | (with_reducible exact o2.alloc _) | (with_reducible exact (o2.alloc _).alloc _)) (by decide)
             have kk : Below W3.heap.size W3 u3 := hA3.below (by first | (with_reducible exact o2) | (with_reducible exact o2.alloc _) | (with_reducible exact (o2.alloc _).alloc _)) (by first | (with_reducible exact kk) | (with_reducible exact kk.alloc kk.size _) | (with_reducible exact (kk.alloc kk.size _).alloc (by have hks := kk.size; first | (with_reducible exact hks) | (simp; done) | (simp; omega)) _)) (by have hks := kk.size; first | (with_reducible exact hks) | (simp; done) | (simp; omega))
             have o3 := hA3.own
             rw [← HML.out, ← HMI.out] at o3
             obtain ⟨a7, c7, hv7, sM, _⟩ := intS_own o3 (by rw [HML.out]; omega)
             subst hv7
             clear hA3 o2 hF o3)
          | (refine app_stepF _ (fun W => True) (by with_reducible exact trivial) rfl (.tmp 48) (.tmp 51) 23 rfl Try.underlying23 hi hz0 hz1 hz2 rfl (by decide) (by conv => lhs; simp [go_sem]) (by first | (with_reducible exact o2) | (with_reducible exact o2.alloc _) | (with_reducible exact (o2.alloc _).alloc _)) (by conv => lhs; simp [go_sem]) (S2.below (by first | (with_reducible exact kk) | (with_reducible exact kk.alloc kk.size _) | (with_reducible exact (kk.alloc kk.size _).alloc (by have hks := kk.size; first | (with_reducible exact hks) | (simp; done) | (simp; omega)) _))) (ints_one _) (by unfold maxLen; simp; omega) (by simp; omega) (by have hks := kk.size; first | (with_reducible exact hks) | (simp; done) | (simp; omega)) ?_
             intro v3 u3 hF hA3
             try have zL := ZL.app hF hA3 (by first | (with_reducible exact o2) | (with_reducible exact o2.alloc _) | (with_reducible exact (o2.alloc _).alloc _)) (by decide)
             have kk : Below W3.heap.size W3 u3 := hA3.below (by first | (with_reducible exact o2) | (with_reducible exact o2.alloc _) | (with_reducible exact (o2.alloc _).alloc _)) (by first | (with_reducible exact kk) | (with_reducible exact kk.alloc kk.size _) | (with_reducible exact (kk.alloc kk.size _).alloc (by have hks := kk.size; first | (with_reducible exact hks) | (simp; done) | (simp; omega)) _)) (by have hks := kk.size; first | (with_reducible exact hks) | (simp; done) | (simp; omega))
             have o3 := hA3.own
             rw [← HML.out, ← HMI.out] at o3
             obtain ⟨a7, c7, hv7, sM, _⟩ := intS_own o3 (by rw [HML.out]; omega)
             subst hv7
             clear hA3 o2 hF o3)
          | (go_simp
             go_at_call 17
             refine (HRUN2.out a7 c7 _ (hP3.below (by first | (with_reducible exact kk) | (with_reducible exact kk.alloc kk.size _) | (with_reducible exact (kk.alloc kk.size _).alloc (by have hks := kk.size; first | (with_reducible exact hks) | (simp; done) | (simp; omega)) _))) (by first | (with_reducible exact sM) | (with_reducible exact sM.below ((Below.refl _ _).alloc (Nat.le_refl _) _)))).mono ?_
             rintro r u5 ⟨a5, c5, ⟨_, hfar⟩, rfl, hM5, hk⟩
             try have zR := ZL.run hk zL
             try have zR := ZL.run (B := W3.heap.size) (b := u3.heap.size) hk (by with_reducible exact ZL.new u3 _ (by simp) kk.size)
             have kk : Below W3.heap.size W3 u5 := Below.trans (by first | (with_reducible exact kk) | (with_reducible exact kk.alloc kk.size _) | (with_reducible exact (kk.alloc kk.size _).alloc (by have hks := kk.size; first | (with_reducible exact hks) | (simp; done) | (simp; omega)) _)) (hk.mono (by have hks := kk.size; first | (with_reducible exact hks) | (simp; done) | (simp; omega)))
             have hYs := HS.out
             first
               | (obtain ⟨hzb, hlt⟩ := zR
                  obtain ⟨uS, hst, hS⟩ := hzb.store (P := Try.prog) HS.out H1.out
                  have fL := hzb.setRow Y
                  rw [← hS] at fL
                  have kS : Below W3.heap.size W3 uS := by rw [hS]; exact below_setRow kk hzb.ge
                  have fB := hZ3.below kS hZ3.lt
                  have e2 := hL3.below kS
                  have e5 : EvS uS a5 L := by rw [hS]; exact EvS.setRow hM5 hfar (by first | (with_reducible exact hlt) | (simp; done) | (simp; omega)) Y
                  clear hS hk sM hzb hlt hfar)
               | (have hzb := ZL.new (B := W3.heap.size) u5 #[.int .i64 0, .int .i64 0, .int .i64 0, .int .i64 0, .int .i64 0, .int .i64 0, .int .i64 0, .int .i64 0, .int .i64 0, .int .i64 0, .int .i64 0, .int .i64 0, .int .i64 0, .int .i64 0, .int .i64 0, .int .i64 0, .int .i64 0, .int .i64 0, .bool false, .bool false] rfl kk.size
                  obtain ⟨uS, hst, hS⟩ := hzb.store (P := Try.prog) HS.out H1.out
                  have fL : Has uS u5.heap.size Y endT := by rw [hS]; exact hzb.setRow Y
                  have kS : Below W3.heap.size W3 uS := by rw [hS]; exact below_setRow (kk.alloc kk.size _) kk.size
                  have fB := hZ3.below kS hZ3.lt
                  have e2 := hL3.below kS
                  have e5 : EvS uS a5 L := by rw [hS]; exact hM5.setNew _ _
                  clear hS hk sM hzb hfar)))
         all_goals
           go_simp
           refine (show ∀ (a' : Act) (w' : World), Met _ a' w' → _ by assumption) _ _ ?_
           go_meet
           exact ⟨_, _, _, rfl, rfl, rfl, fL, fB, e2, e5, hb3.trans (kS.mono hs3)⟩
        case rest =>
          obtain ⟨bL, a5, c5, rfl, rfl, rfl, fL, fB, e2, e5, hb5⟩ := hcut
          have hx3 := HEQ.out
          have he1 : eqB L L = true := eqB_iff.2 rfl
          clear hZ3 hL3 S1 S2 kk kk0 HRUN2
          go_wp2_with (first
            | (refine wpList_yes rfl (fun K hK => ?_); refine wp_load_row endT _ rfl BY rfl endT Y (0, 0) _ fB.out Try.underlying30 rfl (by rw [HS.out]; rfl) ?_; refine hK _ _ ?_; clear hK K)
            | (refine wpList_yes rfl (fun K hK => ?_); refine wp_load_row endT _ rfl bL rfl endT Y (0, 0) _ fL.out Try.underlying30 rfl (by rw [HS.out]; rfl) ?_; refine hK _ _ ?_; clear hK K)
            | fail)
          refine (eqEv_any L L a2 a5 c2 c5 wc e2 e5).mono ?_
          rintro r w6 ⟨rfl, hk6⟩
          rw [he1]
          have hb6 := hb5.trans (hk6.mono hb5.size)
          clear fL fB e2 e5 hk6 hb5
          go_wp2
          go_ret
          exact ⟨rfl, hb6⟩
  · have g1 : decide ((l.length : Int) > 99) = true := decide_eq_true (by omega)
    have g2 : decide (99 < l.length) = true := decide_eq_true (by omega)
    go_enter Try.func3, Try.ntmps3
    go_wp2_with fail
    refine (ran_any _).mono ?_
    rintro r w1 ⟨rfl, hb1⟩
    go_wp2
    go_ret
    exact ⟨rfl, hb1⟩

/-! The frame of the law ProgPicks, by program. -/
set_option maxRecDepth 100000 in
theorem progPicks_lifted (os : Os) (started : os.Started) (H : Type) (enc : TypeId × Value → H) :
    ReturnsInHanded {} Try.checked os 3 .any (Rows.progPicksSpec.pre6 enc Try.prog Try.f3 Rows.progPicksRow.domain false) (Rows.progPicksSpec.post enc Try.prog Try.f3 false true false false) := by
  refine returnsInHanded_of_change_shaped (C := Try.checked) frame_own started (by kernel_rfl) Try.func3
    (ChangeSpec.witness6 (enc := enc) (C := Try.checked) false ⟨#[], #[.slice none 0 0, .slice none 0 0, .int .i64 0, .int .i64 0], []⟩ 8 (by kernel_rfl) (by kernel_rfl) (by kernel_rfl) (by kernel_rfl)) ?_
  intro W base args ds gs before hval0 hW hcnd hsz hshaped hroom
  clear hcnd hshaped
  have hval : ∀ (j : Nat) t v, Try.f3.params[j]? = some t → args[j]? = some v → Value.okWide Try.prog W .any base t v := hval0
  have hW' := hW
  obtain ⟨p, q, hA0, hV, rfl, hfz, hnd⟩ := hW
  have hA : DataW.TrodAll enc Try.prog W 0 (fun _ => true) true Try.f3.params.toList args.toList ds p := hA0
  rw [Try.params3] at hA hval
  obtain ⟨v0, vs0, d0, ds0, p0, q0, hargs, rfl, rfl, h0, r0⟩ := trodAll_cons hA
  obtain ⟨v1, vs1, d1, ds1, p1, q1, rfl, rfl, rfl, h1, r1⟩ := trodAll_cons r0
  obtain ⟨v2, vs2, d2, ds2, p2, q2, rfl, rfl, rfl, h2, r2⟩ := trodAll_cons r1
  obtain ⟨v3, vs3, d3, ds3, p3, q3, rfl, rfl, rfl, h3, r3⟩ := trodAll_cons r2
  obtain ⟨rfl, rfl, rfl⟩ := trodAll_nil r3
  obtain rfl : args = #[v0, v1, v2, v3] := by cases args; simp_all
  obtain ⟨rfl, rfl⟩ := trodVars_none hV
  have k0 := h0
  have lt0 : ∀ x ∈ p0, x.block < W.heap.size := by obtain ⟨m, hm⟩ := k0; exact DataW.trod_lt m _ _ _ hm
  obtain ⟨a0, z0, c0, rfl, w0⟩ := open_prog (hval 0 22 v0 rfl rfl) h0 (fun n hn => of_decide_eq_true (List.all_eq_true.1 hsz _ (DataW.weights_mem_each (j := 0) rfl rfl n hn)))
  have k1 := h1
  have lt1 : ∀ x ∈ p1, x.block < W.heap.size := by obtain ⟨m, hm⟩ := k1; exact DataW.trod_lt m _ _ _ hm
  obtain ⟨a1, z1, c1, rfl, w1⟩ := open_ints (hval 1 23 v1 rfl rfl) h1 (fun els sp hd => sized_slice hsz (j := 1) rfl (by rw [hd]; rfl) Try.underlying23)
  have k2 := h2
  have lt2 : ∀ x ∈ p2, x.block < W.heap.size := by obtain ⟨m, hm⟩ := k2; exact DataW.trod_lt m _ _ _ hm
  obtain ⟨a2, rfl, rfl, rfl, w2⟩ := open_int Try.underlying3 (hval 2 3 v2 rfl rfl) h2
  have k3 := h3
  have lt3 : ∀ x ∈ p3, x.block < W.heap.size := by obtain ⟨m, hm⟩ := k3; exact DataW.trod_lt m _ _ _ hm
  obtain ⟨a3, rfl, rfl, rfl, w3⟩ := open_int Try.underlying3 (hval 3 3 v3 rfl rfl) h3
  clear hA0 hval0
  refine (progPicks_walk a0 z0 c0 a1 z1 c1 a2 a3 W w0 w1 (wf_i64 w2) (wf_i64 w3)).mono fun e W' ⟨he, bel⟩ => ?_
  subst he
  exact ⟨_, rfl, _, _, _, [], _, [], hW', trodAll_mk1 (shut_bool Try.underlying4 _), (trodAll_cons_mk (Below.trod frame_laid (by kernel_rfl) (of_decide_eq_true (by kernel_rfl)) k0 bel lt0) (trodAll_cons_mk (Below.trod frame_laid (by kernel_rfl) (of_decide_eq_true (by kernel_rfl)) k1 bel lt1) (trodAll_cons_mk (Below.trod frame_laid (by kernel_rfl) (of_decide_eq_true (by kernel_rfl)) k2 bel lt2) (trodAll_cons_mk (Below.trod frame_laid (by kernel_rfl) (of_decide_eq_true (by kernel_rfl)) k3 bel lt3) trodAll_mk0)))), rfl, bel.frame _, fun h => by cases h⟩

theorem progPicks_over : Rows.progPicksRow.holds Try.pinned (OpenSpec.ofChange Rows.progPicksSpec) :=
  OpenClaim.holds_of_wide 3 Try.f3 rfl rfl rfl rfl rfl rfl rfl ⟨rfl, rfl, rfl, rfl, rfl⟩ rfl rfl rfl rfl rfl (by kernel_rfl) Try.func3 (by kernel_rfl)
    (of_decide_eq_true (by kernel_rfl)) (by unfold Func.isWrapper; first | (rw [if_pos (by decide +kernel)]; kernel_rfl) | (rw [if_neg (by decide +kernel)]; exact ⟨rfl, rfl⟩))
    (fun os started H enc _ => progPicks_lifted os started H enc)

/-- The statement. -/
theorem progPicks_holds : Rows.ProgPicksSaid := progPicks_over

end Go.Proofs.Ythfeakfakjecoaa
