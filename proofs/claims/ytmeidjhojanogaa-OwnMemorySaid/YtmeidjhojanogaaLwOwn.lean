/- OwnMemory: arguments are not modified, and results share no memory with them: for every slice of events and every index. -/
import Derived.Test.YtmeidjhojanogaaRows
import Derived.Test.YtmeidjhojanogaaOwT
import Derived.Test.YtmeidjhojanogaaOwL
import Derived.Test.YtmeidjhojanogaaOwH
import Derived.Test.YtmeidjhojanogaaOpenE
import Derived.Test.YtmeidjhojanogaaOpenI
namespace Go.Proofs.Ytmeidjhojanogaa
open Go.ChangeShapes Go.WideShapes Go.ChangeAt Go.RowKit

/-- A slice of n events that may be written to: its block lies above B. -/
def WrE (B : Nat) (w : World) (v : Value) : Prop := ∃ a n c, v = .slice a n c ∧ n < 4611686018427387904 ∧ (n = 0 ∨ ∃ g cs, a = some ⟨g, 0, none⟩ ∧ B ≤ g ∧ Has w g cs 26 ∧ n * 3 ≤ cs.size)
theorem WrE.below {B : Nat} {w w' : World} {v : Value} (h : WrE B w v) (k : Below w.heap.size w w') : WrE B w' v := by
  obtain ⟨a, n, c, h1, h2, h3⟩ := h
  refine ⟨a, n, c, h1, h2, ?_⟩
  rcases h3 with h0 | ⟨g, cs, ha, hg, hb, hn⟩
  · exact .inl h0
  · exact .inr ⟨g, cs, ha, hg, hb.below k hb.lt, hn⟩
theorem WrE.mono {B C : Nat} {w : World} {v : Value} (h : WrE B w v) (k : C ≤ B) : WrE C w v := by
  obtain ⟨a, n, c, h1, h2, h3⟩ := h
  refine ⟨a, n, c, h1, h2, ?_⟩
  rcases h3 with h0 | ⟨g, cs, ha, hg, r⟩
  · exact .inl h0
  · exact .inr ⟨g, cs, ha, Nat.le_trans k hg, r⟩
theorem WrE.of {B : Nat} {w : World} {a : Option Addr} {l : List Ev} (h : EvF B w a l) (c : Nat) : WrE B w (.slice a l.length c) := by
  refine ⟨a, l.length, c, rfl, h.evs.big, ?_⟩
  rcases h.fr with h0 | ⟨g, cs, rfl, hg, hb⟩
  · exact .inl (by rw [h0]; rfl)
  · by_cases hl : l.length = 0
    · exact .inl hl
    · refine .inr ⟨g, cs, rfl, hg, hb, ?_⟩
      obtain ⟨b', o', hbo, _, _, d2⟩ := h.evs.at (i := l.length - 1) (by omega)
      cases hbo
      have e : w.cell? ⟨g, 0 + (l.length - 1) * 3 + 2, none⟩ = cs[0 + (l.length - 1) * 3 + 2]? := by simp [World.cell?, hb.out]
      rw [e] at d2
      have h3 := (Array.getElem?_eq_some_iff.1 d2).1
      omega
theorem WrE.nil (B : Nat) (w : World) : WrE B w (.slice none 0 0) := ⟨none, 0, 0, rfl, by decide, .inl rfl⟩
/-- A cell of a block of events is written. -/
theorem WrE.set {B : Nat} {w : World} {v : Value} (h : WrE B w v) (g i : Nat) (x : Value) : WrE B (w.setCell ⟨g, i, none⟩ x) v := by
  obtain ⟨a, n, c, h1, h2, h3⟩ := h
  refine ⟨a, n, c, h1, h2, ?_⟩
  rcases h3 with h0 | ⟨g2, cs, ha, hg, hb, hn⟩
  · exact .inl h0
  · by_cases e : g2 = g
    · subst e
      exact .inr ⟨g2, _, ha, hg, hb.setCell i x, by simpa using hn⟩
    · exact .inr ⟨g2, cs, ha, hg, hb.setCell_ne (a := ⟨g, i, none⟩) e x, hn⟩
theorem WrE.at {B : Nat} {w : World} {a : Option Addr} {n c : Nat} (h : WrE B w (.slice a n c)) {k : Nat} (hk : k < n) : ∃ g cs, a = some ⟨g, 0, none⟩ ∧ B ≤ g ∧ Has w g cs 26 ∧ ∃ x y z, cs[k * 3]? = some x ∧ cs[k * 3 + 1]? = some y ∧ cs[k * 3 + 2]? = some z := by
  obtain ⟨_, _, _, e, _, h3⟩ := h
  cases e
  rcases h3 with h0 | ⟨g, cs, ha, hg, hb, hn⟩
  · omega
  · exact ⟨g, cs, ha, hg, hb, cs[k * 3], cs[k * 3 + 1], cs[k * 3 + 2], by simp, by simp, by simp⟩
theorem copyEv_all (l : List Ev) (a : Option Addr) (c : Nat) (w : World) (h : EvS w a l) (h24 : l.length * 24 ≤ 140737488351232) :
    Calls Try.prog 5 #[.slice a l.length c] w (ClonePost l w) := by
  obtain ⟨i0, hi, hz0, hz1, hz2⟩ := info_parts infoE
  have S1 := h.src
  have hbig := h.big
  have hO := World.ownsRow_nil w w.heap.size 26 3
  go_enter Try.func5, Try.ntmps5
  go_wp2_with (at_builtin; refine app_list _ rfl _ _ 22 rfl Try.underlying22 hi hz0 hz1 hz2 rfl (by decide) rfl hO rfl S1 (evL_one _) ?c3 ?c4 (Nat.le_refl _) ?_)
  case c3 => unfold maxLen; omega
  case c4 => omega
  intro v w2 hAp
  have hb2 := hAp.below hO (Below.refl _ _) (Nat.le_refl _)
  go_wp2
  go_ret
  refine ⟨_, rfl, ?_, hb2⟩
  have := hAp.own
  simpa using this
/-- A slice in a new block, or nil, and an error number. -/
def ResE (w : World) (r : Ending) (w' : World) : Prop := ∃ (v : Value) (e : Int), r = .returned (.tuple #[v, .int .i64 e]) ∧ WrE w.heap.size w' v ∧ Below w.heap.size w w'
section
variable (l : List Ev) (a : Option Addr) (c : Nat) (w : World) (h : EvS w a l)
include h
theorem swapE_any (i : Int) : Calls Try.prog 6 #[.slice a l.length c, .int .i64 i] w (ResE w) := by
  cases hs : swOk l i
  · refine (swap_no l a c i w h hs).mono ?_
    rintro r w' ⟨e, _, rfl, hb⟩
    exact ⟨_, e, rfl, WrE.nil _ _, hb⟩
  · obtain ⟨k, hk, rfl, hp, hA⟩ := swOk_at hs
    refine (swap_ok l a c k w h hp hk hA).mono ?_
    rintro r w' ⟨a', c', rfl, hE, _, hb⟩
    exact ⟨_, 0, rfl, WrE.of hE c', hb⟩
theorem leastE_any : Calls Try.prog 7 #[.slice a l.length c] w (ResE w) := by
  by_cases hp : (played l).2.2 = 0
  · refine (leasts_ok l l.length rfl a c w h hp).mono ?_
    rintro r w' ⟨a', c', rfl, hE, hb⟩
    have := WrE.of hE c'
    rw [leastL_len] at this
    exact ⟨_, 0, rfl, this, hb⟩
  · refine (leasts_no l l.length rfl a c w h hp).mono ?_
    rintro r w' ⟨e, _, rfl, hb⟩
    exact ⟨_, e, rfl, WrE.nil _ _, hb⟩
theorem withoutE_any (i : Int) : Calls Try.prog 8 #[.slice a l.length c, .int .i64 i] w (ResE w) := by
  cases hs : woOk l i
  · refine (without_no l l.length i rfl a c w h hs).mono ?_
    rintro r w' ⟨e, _, rfl, hb⟩
    exact ⟨_, e, rfl, WrE.nil _ _, hb⟩
  · obtain ⟨k, rfl, hk, hp, hq⟩ := woOk_at hs
    refine (without_ok l l.length k rfl hk a c w h hp hq).mono ?_
    rintro r w' ⟨a', c', rfl, hE, hb⟩
    exact ⟨_, 0, rfl, WrE.of hE c', hb⟩
theorem minE_any : Calls Try.prog 9 #[.slice a l.length c] w (ResE w) := by
  by_cases hr : Racy l
  · refine (min_ok l l.length rfl a c w h hr).mono ?_
    rintro r w' ⟨a', c', rfl, hE, hb⟩
    exact ⟨_, 0, rfl, WrE.of hE c', hb⟩
  · refine (min_no l l.length rfl a c w h hr).mono ?_
    rintro r w' ⟨rfl, hb⟩
    exact ⟨_, _, rfl, WrE.nil _ _, hb⟩
end
abbrev evsT : TypeId := 22
/-- Amid the writes: four slices in a literal. -/
structure OwnI (B bl : Nat) (w2 : World) (v1 v2 v3 v4 : Value) (w : World) : Prop where
  lit : Has w bl #[v1, v2, v3, v4] evsT
  q1 : WrE B w v1
  q2 : WrE B w v2
  q3 : WrE B w v3
  q4 : WrE B w v4
  below : Below B w2 w
theorem OwnI.at {B bl : Nat} {w2 w : World} {v1 v2 v3 v4 : Value} (h : OwnI B bl w2 v1 v2 v3 v4 w) {k : Nat} (hk : k < 4) : ∃ v, w.cell? ⟨bl, k, none⟩ = some v ∧ WrE B w v := by
  rcases (by omega : k = 0 ∨ k = 1 ∨ k = 2 ∨ k = 3) with rfl | rfl | rfl | rfl
  · exact ⟨v1, h.lit.cell rfl, h.q1⟩
  · exact ⟨v2, h.lit.cell rfl, h.q2⟩
  · exact ⟨v3, h.lit.cell rfl, h.q3⟩
  · exact ⟨v4, h.lit.cell rfl, h.q4⟩
theorem OwnI.set {B bl : Nat} {w2 w : World} {v1 v2 v3 v4 : Value} (h : OwnI B bl w2 v1 v2 v3 v4 w) {g : Nat} {cs : Array Value} (hg : Has w g cs 26) (hB : B ≤ g) (i : Nat) (x : Value) : OwnI B bl w2 v1 v2 v3 v4 (w.setCell ⟨g, i, none⟩ x) := by
  have hne : bl ≠ g := fun e => by
    subst e
    have h1 := h.lit.out
    rw [hg.out] at h1
    simp only [Option.some.injEq, Obj.cells.injEq] at h1
    exact absurd h1.2.1 (by decide)
  exact ⟨h.lit.setCell_ne (a := ⟨g, i, none⟩) hne x, h.q1.set g i x, h.q2.set g i x, h.q3.set g i x, h.q4.set g i x, h.below.setCell (show B ≤ (⟨g, i, none⟩ : Addr).block from hB) x⟩
set_option maxRecDepth 100000 in
set_option maxHeartbeats 8000000 in
theorem ownMemory_walk (a : Option Addr) (l : List Ev) (c : Nat) (i : Int) (w : World) (hl : EvS w a l ∧ l.length ≤ c ∧ l.length * 24 ≤ 140737488351232 ∧ ∀ e ∈ l, I64 e.k ∧ I64 e.t ∧ I64 e.o) (_ : I64 i) :
    Calls Try.prog 3 #[.slice a l.length c, .int .i64 i] w fun e w' => e = .returned (.bool true) ∧ Below w.heap.size w w' := by
  have h := hl.1
  have h24 := hl.2.2.1
  clear hl
  go_enter Try.func3, Try.ntmps3
  go_wp2_with fail
  refine (swapped_any _).mono ?_
  rintro r w1 ⟨rfl, hb1⟩
  have hcp := copyEv_all l a c w1 (h.below hb1) h24
  go_wp2_with fail
  refine hcp.mono ?_
  rintro r w2 ⟨v, rfl, hown, hk2⟩
  obtain ⟨a2, c2, rfl, hE2, _⟩ := evS_own hown (by omega)
  have hb2 := hb1.trans (hk2.mono hb1.size)
  have hl2 := h.below hb2
  clear hcp hown hk2 hb1 h
  have c1 := swapE_any l a c w2 hl2 i
  go_wp2_with fail
  refine c1.mono ?_
  rintro r w3 ⟨v1, e1, rfl, hw1, hb3⟩
  clear c1
  have c1 := leastE_any l a c w3 (hl2.below hb3)
  go_wp2_with fail
  refine c1.mono ?_
  rintro r w4 ⟨v2, e2, rfl, hw2, hk4⟩
  have hb4 := hb3.trans (hk4.mono hb3.size)
  have hw1 := hw1.below hk4
  have hw2 := hw2.mono hb3.size
  clear c1 hb3 hk4
  have c1 := withoutE_any l a c w4 (hl2.below hb4) i
  go_wp2_with fail
  refine c1.mono ?_
  rintro r w5 ⟨v3, e3, rfl, hw3, hk5⟩
  have hb5 := hb4.trans (hk5.mono hb4.size)
  have hw1 := hw1.below hk5
  have hw2 := hw2.below hk5
  have hw3 := hw3.mono hb4.size
  clear c1 hb4 hk5
  have c1 := minE_any l a c w5 (hl2.below hb5)
  go_wp2_with fail
  refine c1.mono ?_
  rintro r w6 ⟨v4, e4, rfl, hw4, hk6⟩
  have hb6 := hb5.trans (hk6.mono hb5.size)
  have hw1 := hw1.below hk6
  have hw2 := hw2.below hk6
  have hw3 := hw3.below hk6
  have hw4 := hw4.mono hb5.size
  clear c1 hb5 hk6
  obtain ⟨a_1, n1, cc1, rfl, hn1, _⟩ := id hw1
  obtain ⟨a_2, n2, cc2, rfl, hn2, _⟩ := id hw2
  obtain ⟨a_3, n3, cc3, rfl, hn3, _⟩ := id hw3
  obtain ⟨a_4, n4, cc4, rfl, hn4, _⟩ := id hw4
  go_upto_region 9 with fail
  generalize hW : World.alloc _ _ = W
  have hI : OwnI w2.heap.size w6.heap.size w2 (.slice a_1 n1 cc1) (.slice a_2 n2 cc2) (.slice a_3 n3 cc3) (.slice a_4 n4 cc4) W := by
    have hk : Below w6.heap.size w6 W := by rw [← hW]; exact (Below.refl _ _).alloc (Nat.le_refl _) _
    exact ⟨by rw [← hW]; exact Has.new w6 _ _, hw1.below hk, hw2.below hk, hw3.below hk, hw4.below hk, hb6.trans (hk.mono hb6.size)⟩
  clear hW hw1 hw2 hw3 hw4 hb6
  go_loopw [49] (fun i wr => ∃ k : Nat, k ≤ 4 ∧ i = .int .i64 k ∧ OwnI w2.heap.size w6.heap.size w2 (.slice a_1 n1 cc1) (.slice a_2 n2 cc2) (.slice a_3 n3 cc3) (.slice a_4 n4 cc4) wr) (fun i _ => 4 - (intOf i).toNat)
  case atStart => exact ⟨0, by omega, rfl, hI⟩
  case round =>
    clear hI
    obtain ⟨k, hk, rfl, hI⟩ := hrel
    by_cases hlt : k < 4
    · obtain ⟨v, hv, hW⟩ := hI.at hlt
      obtain ⟨av, nv, cv, rfl, hnv, _⟩ := id hW
      have k0 : (0 : Int) ≤ k := by omega
      have k1 : (k : Int) < 4 := by omega
      obtain ⟨wo, rfl⟩ : ∃ wo : World, wo = wr := ⟨_, rfl⟩
      go_upto_region 12 with fail
      go_loopw [55] (fun i wr => ∃ j : Nat, j ≤ nv ∧ i = .int .i64 j ∧ WrE w2.heap.size wr (.slice av nv cv) ∧ OwnI w2.heap.size w6.heap.size w2 (.slice a_1 n1 cc1) (.slice a_2 n2 cc2) (.slice a_3 n3 cc3) (.slice a_4 n4 cc4) wr) (fun i _ => nv - (intOf i).toNat)
      case atStart => exact ⟨0, by omega, rfl, hW, hI⟩
      case round =>
        clear hW hI hv
        obtain ⟨j, hj, rfl, hW, hI⟩ := hrel
        by_cases hlj : j < nv
        · obtain ⟨g, cs, rfl, hg, hb, x, y, z, hx, hy, hz⟩ := hW.at hlj
          have j0 : (0 : Int) ≤ j := by omega
          have j1 : (j : Int) < nv := by omega
          have d0 : wr.cell? ⟨g, j * 3, none⟩ = some x := hb.cell hx
          have d1 : wr.cell? ⟨g, j * 3 + 1, none⟩ = some y := hb.cell hy
          have d2 : wr.cell? ⟨g, j * 3 + 2, none⟩ = some z := hb.cell hz
          have z0 := hb.free (j * 3)
          have z1 := hb.free (j * 3 + 1)
          have z2 := hb.free (j * 3 + 2)
          have hW2 := ((hW.set g (j * 3) (.int .i64 77)).set g (j * 3 + 1) (.int .i64 0)).set g (j * 3 + 2) (.int .i64 0)
          have hI2 := ((hI.set hb hg (j * 3) (.int .i64 77)).set (hb.setCell (j * 3) (.int .i64 77)) hg (j * 3 + 1) (.int .i64 0)).set ((hb.setCell (j * 3) (.int .i64 77)).setCell (j * 3 + 1) (.int .i64 0)) hg (j * 3 + 2) (.int .i64 0)
          clear hW hI hb hx hy hz
          go_wp2
          go_roundw
          case rel => exact ⟨j + 1, by omega, by go_num, hW2, hI2⟩
          case measure => (simp [intOf]; try omega)
        · obtain rfl : j = nv := by omega
          clear hW
          go_wp2
          go_roundw
          case rel => exact ⟨k + 1, by omega, by go_num, hI⟩
          case measure => (simp [intOf]; try omega)
    · obtain rfl : k = 4 := by omega
      have hbw := hI.below
      have hE := eqEv_any l l a a2 c c2 wr (hl2.below hbw) (hE2.below hbw)
      rw [show eqB l l = true from eqB_iff.2 rfl] at hE
      have hfin := hb2.trans (hbw.mono hb2.size)
      clear hI hbw hl2 hE2
      go_wp2_with fail
      refine hE.mono ?_
      rintro r w9 ⟨rfl, hk9⟩
      have hk10 := hfin.trans (hk9.mono hfin.size)
      clear hE
      go_wp2
      go_ret
      exact ⟨rfl, hk10⟩
/-! The frame of the law OwnMemory, by program. -/
set_option maxRecDepth 100000 in
theorem ownMemory_lifted (os : Os) (started : os.Started) (H : Type) (enc : TypeId × Value → H) :
    ReturnsInHanded {} Try.checked os 3 .any (Rows.ownMemorySpec.pre6 enc Try.prog Try.f3 Rows.ownMemoryRow.domain false) (Rows.ownMemorySpec.post enc Try.prog Try.f3 false true false false) := by
  refine returnsInHanded_of_change_shaped (C := Try.checked) frame_own started (by kernel_rfl) Try.func3
    (ChangeSpec.witness6 (enc := enc) (C := Try.checked) false ⟨#[], #[.slice none 0 0, .int .i64 0], []⟩ 8 (by kernel_rfl) (by kernel_rfl) (by kernel_rfl) (by kernel_rfl)) ?_
  intro W base args ds gs before hval0 hW hcnd hsz hshaped hroom
  clear hcnd hshaped
  have hval : ∀ (j : Nat) t v, Try.f3.params[j]? = some t → args[j]? = some v → Value.okWide Try.prog W .any base t v := hval0
  have hW' := hW
  obtain ⟨p, q, hA0, hV, rfl, hfz, hnd⟩ := hW
  have hA : DataW.TrodAll enc Try.prog W 0 (fun _ => true) true Try.f3.params.toList args.toList ds p := hA0
  rw [Try.params3] at hA hval
  obtain ⟨v0, vs0, d0, ds0, p0, q0, hargs, rfl, rfl, h0, r0⟩ := trodAll_cons hA
  obtain ⟨v1, vs1, d1, ds1, p1, q1, rfl, rfl, rfl, h1, r1⟩ := trodAll_cons r0
  obtain ⟨rfl, rfl, rfl⟩ := trodAll_nil r1
  obtain rfl : args = #[v0, v1] := by cases args; simp_all
  obtain ⟨rfl, rfl⟩ := trodVars_none hV
  have k0 := h0
  have lt0 : ∀ x ∈ p0, x.block < W.heap.size := by obtain ⟨m, hm⟩ := k0; exact DataW.trod_lt m _ _ _ hm
  obtain ⟨a0, z0, c0, rfl, w0⟩ := open_evs (hval 0 22 v0 rfl rfl) h0 (fun els sp hd => sized_slice hsz (j := 0) rfl (by rw [hd]; rfl) Try.underlying22)
  have k1 := h1
  have lt1 : ∀ x ∈ p1, x.block < W.heap.size := by obtain ⟨m, hm⟩ := k1; exact DataW.trod_lt m _ _ _ hm
  obtain ⟨a1, rfl, rfl, rfl, w1⟩ := open_int Try.underlying3 (hval 1 3 v1 rfl rfl) h1
  clear hA0 hval0
  refine (ownMemory_walk a0 z0 c0 a1 W w0 (wf_i64 w1)).mono fun e W' ⟨he, bel⟩ => ?_
  subst he
  exact ⟨_, rfl, _, _, _, [], _, [], hW', trodAll_mk1 (shut_bool Try.underlying4 _), (trodAll_cons_mk (Below.trod frame_laid (by kernel_rfl) (of_decide_eq_true (by kernel_rfl)) k0 bel lt0) (trodAll_cons_mk (Below.trod frame_laid (by kernel_rfl) (of_decide_eq_true (by kernel_rfl)) k1 bel lt1) trodAll_mk0)), rfl, bel.frame _, fun h => by cases h⟩

theorem ownMemory_over : Rows.ownMemoryRow.holds Try.pinned (OpenSpec.ofChange Rows.ownMemorySpec) :=
  OpenClaim.holds_of_wide 3 Try.f3 rfl rfl rfl rfl rfl rfl rfl ⟨rfl, rfl, rfl, rfl, rfl⟩ rfl rfl rfl rfl rfl (by kernel_rfl) Try.func3 (by kernel_rfl)
    (of_decide_eq_true (by kernel_rfl)) (by unfold Func.isWrapper; first | (rw [if_pos (by decide +kernel)]; kernel_rfl) | (rw [if_neg (by decide +kernel)]; exact ⟨rfl, rfl⟩))
    (fun os started H enc _ => ownMemory_lifted os started H enc)

/-- The statement. -/
theorem ownMemory_holds : Rows.OwnMemorySaid := ownMemory_over

end Go.Proofs.Ytmeidjhojanogaa
