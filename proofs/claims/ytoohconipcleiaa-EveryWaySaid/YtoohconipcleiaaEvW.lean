/- The visitor that Way hands to the walk: its contract. -/
import Derived.Test.YtoohconipcleiaaEvF
namespace Go.Proofs.Ytoohconipcleiaa
open Go.RowKit

abbrev insT : TypeId := 23
/-- The state of who looks for a way. -/
structure QWay (ap : Option Addr) (n cp bp be bw bf bm : Nat) (E : Array Value) (v : Option (List Int)) (X : Nat → Prop) (w : World) : Prop where
  pc : Has w bp #[.slice ap n cp] pgT
  pe : Has w be E endT
  ord : bp < be ∧ be < bw ∧ bw < bf
  way : (v = none ∧ Has w bw #[.slice none 0 0] insT) ∨ ∃ pk a c, v = some pk ∧ Has w bw #[.slice a pk.length c] insT ∧ IntS w a pk ∧ ∀ ad : Addr, a = some ad → ¬ X ad.block ∧ ad.block ≠ bm
  fnd : Has w bf #[.bool v.isSome] 4
  hX : ∀ k, X k ↔ k = bw ∨ k = bf
  ne : bp ≠ bm ∧ be ≠ bm
section
variable {ap : Option Addr} {n cp bp be bw bf bm : Nat} {E : Array Value} {v : Option (List Int)} {X : Nat → Prop} {w w' : World}
theorem QWay.keep (h : QWay ap n cp bp be bw bf bm E v X w) (hn : ¬ X bm) (k : Kept (fun k => k = bm) w w') : QWay ap n cp bp be bw bf bm E v X w' := by
  have h1 : bw ≠ bm := fun e => hn ((h.hX _).2 (.inl e.symm))
  have h2 : bf ≠ bm := fun e => hn ((h.hX _).2 (.inr e.symm))
  refine ⟨k.has h.pc h.ne.1, k.has h.pe h.ne.2, h.ord, ?_, k.has h.fnd h2, h.hX, h.ne⟩
  rcases h.way with ⟨e, hw⟩ | ⟨pk, a, c, e, hw, hI, hd⟩
  · exact .inl ⟨e, k.has hw h1⟩
  · exact .inr ⟨pk, a, c, e, k.has hw h1, k.ints hI fun ad e => (hd ad e).2, hd⟩
theorem QWay.on (h : QWay ap n cp bp be bw bf bm E v X w) (k : Below w.heap.size w w') : QWay ap n cp bp be bw bf bm E v X w' := by
  refine ⟨h.pc.below k h.pc.lt, h.pe.below k h.pe.lt, h.ord, ?_, h.fnd.below k h.fnd.lt, h.hX, h.ne⟩
  rcases h.way with ⟨e, hw⟩ | ⟨pk, a, c, e, hw, hI, hd⟩
  · exact .inl ⟨e, hw.below k hw.lt⟩
  · exact .inr ⟨pk, a, c, e, hw.below k hw.lt, hI.below k, hd⟩
end
set_option maxRecDepth 100000 in
set_option maxHeartbeats 8000000 in
theorem way_call (p : List (List Ev)) (w0 : World) (ap : Option Addr) (cp bp be bw bf bm : Nat) (e0 : EnD) (he0 : NumOk e0.1) (hp : OkP p) (hpg : PgS w0 ap p) (v : Option (List Int)) (X : Nat → Prop) (w : World) (s : PS) (picks : List Int) (a : Option Addr) (c : Nat)
    (hQ : QWay ap p.length cp bp be bw bf bm (enE e0) v X w) (hb0 : Below w0.heap.size w0 w) (hs : AtP p s picks) (hpk : IntS w a picks) (hpa : ∀ ad : Addr, a = some ad → ¬ X ad.block ∧ ad.block ≠ bm) :
    Calls Try.prog 60 #[.agg (psC s), .slice a picks.length c, .pointer (some ⟨bp, 0, none⟩), .pointer (some ⟨be, 0, none⟩), .pointer (some ⟨bw, 0, none⟩), .pointer (some ⟨bf, 0, none⟩)] w
      fun r w' => r = .returned (.bool (goW p (enE e0) v s picks).2) ∧ ∃ X', QWay ap p.length cp bp be bw bf bm (enE e0) (goW p (enE e0) v s picks).1 X' w' ∧ Kept X w w' ∧ NewX w X X' := by
  have hpc := hQ.pc
  have hpe := hQ.pe
  have hSz : (psC s).size = 37 := psC_size s
  have hnum : NumOk s := (hs.stz hp).1.num
  have hend := fun (w1 : World) (h1 : Has w1 w.heap.size (psC s) psT) (h2 : Below w.heap.size w w1) => ended_any p s ap cp w.heap.size [] psT w1 (hpg.below (hb0.trans (h2.mono hb0.size))) (by rw [psR_nil]; exact h1) hp hs.ip
  have heq := fun (w1 : World) => eql_enE (x := enS p s) (y := e0) hnum he0 w1
  have hE : endC s (doneB p s) (stuckB p s) = enE (enS p s) := rfl
  have hEs := enE_size (enS p s)
  have hE1 := enE_one (enS p s)
  have hFs := enE_size e0
  have hE18 : (enE (enS p s))[18]? = some (.bool (doneB p s)) := endC_get s _ _ (by omega)
  have hE19 : (enE (enS p s))[19]? = some (.bool (stuckB p s)) := endC_get s _ _ (by omega)
  have hfit : fitB p (enE e0) s = ((doneB p s || stuckB p s) && eqE (enS p s) e0) := rfl
  have hgo : goW p (enE e0) v s picks = if fitB p (enE e0) s = true then (some picks, false) else (v, v.isNone) := rfl
  rw [hE] at hend
  rw [hfit] at hgo
  generalize goW p (enE e0) v s picks = GV at *
  generalize doneB p s = D at *
  generalize stuckB p s = K at *
  generalize eqE (enS p s) e0 = I at *
  obtain ⟨Y, hYe⟩ : ∃ Y, psC s = Y := ⟨_, rfl⟩
  rw [hYe] at hSz hend ⊢
  obtain ⟨Z, hZe⟩ : ∃ Z, enE (enS p s) = Z := ⟨_, rfl⟩
  rw [hZe] at hend heq hEs hE1 hE18 hE19
  generalize enE e0 = F at *
  clear hE hYe hZe hs hp hpg hnum hfit he0
  go_enter Try.func60, Try.ntmps60
  go_upto_region 1 with fail
  generalize hW : World.alloc _ _ = W
  have hS : Has W w.heap.size Y psT := by rw [← hW]; exact Has.new w _ _
  have hk : Below w.heap.size w W := by rw [← hW]; exact (Below.refl _ _).alloc (Nat.le_refl _) _
  clear hW
  have c1 : W.cell? ⟨bp, 0, none⟩ = some (.slice ap p.length cp) := (hpc.below hk hpc.lt).cell rfl
  go_wp2_with fail
  refine (hend W hS hk).mono ?_
  rintro r w1 ⟨rfl, hb1⟩
  have hk1 := hk.trans (hb1.mono hk.size)
  clear hend hS hb1 c1 hk
  have hz20 := endC_size PS.zero false false
  go_upto_region 2 with (refine wpList_store_row rfl endT _ _ rfl w1.heap.size Z rfl rfl endT _ (Has.new w1 (endC PS.zero false false) endT).out (by rw [hEs]; rfl) (by rw [hEs, hz20]) hE1 ?_)
  generalize hWx : World.setRow _ _ _ = W2
  have hN2 : Has W2 w1.heap.size Z endT := by rw [← hWx]; exact (Has.new w1 (endC PS.zero false false) endT).setRow
  have hb2 : Below w1.heap.size w1 W2 := by rw [← hWx]; exact below_setRow ((Below.refl _ _).alloc (Nat.le_refl _) _) (Nat.le_refl _)
  have hk2 := hk1.trans (hb2.mono hk1.size)
  clear hWx hb2
  have g18 : W2.cell? ⟨w1.heap.size, 18, none⟩ = some (.bool D) := hN2.cell hE18
  have g19 : W2.cell? ⟨w1.heap.size, 19, none⟩ = some (.bool K) := hN2.cell hE19
  have hQ2 := hQ.on hk2
  have gf := hQ2.fnd.cell (i := 0) rfl
  have hpe2 := hQ2.pe
  have hno : Hid (∃ X', QWay ap p.length cp bp be bw bf bm F v X' W2 ∧ Kept X w W2 ∧ NewX w X X') := Lib.hid ⟨X, hQ2, Kept.of_below hk2, NewX.refl _ _⟩
  have hnn : Hid ((!v.isSome) = v.isNone) := Lib.hid (by cases v <;> rfl)
  by_cases hDK : (D || K) = true
  · rcases (by cases D <;> cases K <;> simp_all : D = true ∨ (D = false ∧ K = true)) with rfl | ⟨rfl, rfl⟩
    all_goals
      cases I
      · have hG : Hid (GV = (v, v.isNone)) := Lib.hid (by rw [hgo, if_neg (by simp)])
        clear hgo
        generalize v.isSome = fv at *
        go_wp2_with (first
          | (refine wpList_yes rfl (fun K hK => ?_); refine wp_load_row endT _ rfl w1.heap.size rfl endT Z (0, 0) _ hN2.out Try.underlying29 rfl (by rw [hEs]; rfl) ?_; refine hK _ _ ?_; clear hK K)
          | (refine wpList_yes rfl (fun K hK => ?_); refine wp_load_row endT _ rfl be rfl endT F (0, 0) _ hpe2.out Try.underlying29 rfl (by rw [hFs]; rfl) ?_; refine hK _ _ ?_; clear hK K))
        go_ret
        rw [hG.out]
        exact ⟨by rw [← hnn.out]; rfl, hno.out⟩
      · have hG : Hid (GV = (some picks, false)) := Lib.hid (by rw [hgo, if_pos (by simp)])
        obtain ⟨x, hwx⟩ : ∃ x, Has W2 bw #[x] insT := by
          rcases hQ2.way with ⟨_, h⟩ | ⟨_, _, _, _, h, _⟩
          · exact ⟨_, h⟩
          · exact ⟨_, h⟩
        have hfx := hQ2.fnd
        have gw := hwx.cell (i := 0) rfl
        have fw := hwx.free 0
        have ff := hfx.free 0
        obtain ⟨o1, o2, o3⟩ := hQ.ord
        have HR : Hid (∃ X', QWay ap p.length cp bp be bw bf bm F (some picks) X' ((W2.setCell ⟨bw, 0, none⟩ (.slice a picks.length c)).setCell ⟨bf, 0, none⟩ (.bool true)) ∧ Kept X w ((W2.setCell ⟨bw, 0, none⟩ (.slice a picks.length c)).setCell ⟨bf, 0, none⟩ (.bool true)) ∧ NewX w X X') := Lib.hid ⟨X,
          ⟨(hQ2.pc.setCell_ne (a := ⟨bw, 0, none⟩) (show bp ≠ bw by omega) _).setCell_ne (a := ⟨bf, 0, none⟩) (show bp ≠ bf by omega) _,
           (hQ2.pe.setCell_ne (a := ⟨bw, 0, none⟩) (show be ≠ bw by omega) _).setCell_ne (a := ⟨bf, 0, none⟩) (show be ≠ bf by omega) _, hQ.ord,
           .inr ⟨picks, a, c, rfl, (hwx.setCell 0 _).setCell_ne (a := ⟨bf, 0, none⟩) (show bw ≠ bf by omega) _,
             ((Kept.refl X W2).set (a := ⟨bw, 0, none⟩) (.inl ((hQ.hX _).2 (.inl rfl))) _ |>.set (a := ⟨bf, 0, none⟩) (.inl ((hQ.hX _).2 (.inr rfl))) _).ints (hpk.below hk2) (fun ad e => (hpa ad e).1), hpa⟩,
           (hfx.setCell_ne (a := ⟨bw, 0, none⟩) (show bf ≠ bw by omega) _).setCell 0 _, hQ.hX, hQ.ne⟩,
          ((Kept.of_below hk2).set (a := ⟨bw, 0, none⟩) (.inl ((hQ.hX _).2 (.inl rfl))) _).set (a := ⟨bf, 0, none⟩) (.inl ((hQ.hX _).2 (.inr rfl))) _, NewX.refl _ _⟩
        have hbwf : bw ≠ bf := by omega
        clear hgo hno hnn hfx hwx o1 o2 o3
        generalize v.isSome = fv at *
        go_wp2_with (first
          | (refine wpList_yes rfl (fun K hK => ?_); refine wp_load_row endT _ rfl w1.heap.size rfl endT Z (0, 0) _ hN2.out Try.underlying29 rfl (by rw [hEs]; rfl) ?_; refine hK _ _ ?_; clear hK K)
          | (refine wpList_yes rfl (fun K hK => ?_); refine wp_load_row endT _ rfl be rfl endT F (0, 0) _ hpe2.out Try.underlying29 rfl (by rw [hFs]; rfl) ?_; refine hK _ _ ?_; clear hK K))
        go_ret
        rw [hG.out]
        exact ⟨rfl, HR.out⟩
  · obtain ⟨rfl, rfl⟩ : D = false ∧ K = false := by cases D <;> cases K <;> simp_all
    have hG : Hid (GV = (v, v.isNone)) := Lib.hid (by rw [hgo, if_neg (by simp)])
    generalize v.isSome = fv at *
    clear hDK heq hgo
    go_wp2
    go_ret
    rw [hG.out]
    exact ⟨by rw [← hnn.out]; rfl, hno.out⟩
end Go.Proofs.Ytoohconipcleiaa
