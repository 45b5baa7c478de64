/- Contract of every.Way. -/
import Derived.Test.YtoohconipcleiaaEvW
import Derived.Test.YtoohconipcleiaaEvD
import Derived.Test.YtoohconipcleiaaEvA
import Derived.Shelf.Abstract
namespace Go.Proofs.Ytoohconipcleiaa
open Go.RowKit

theorem Kept.belowOf {X : Nat → Prop} {w w1 w2 : World} (h1 : Below w.heap.size w w1) (h2 : Kept X w1 w2) (hx : ∀ k, X k → w.heap.size ≤ k) : Below w.heap.size w w2 := h1.trans (h2.below h1.size hx)
set_option maxRecDepth 100000 in
theorem way_visits (p : List (List Ev)) (w0 : World) (ap : Option Addr) (cp bp be bw bf : Nat) (e0 : EnD) (he0 : NumOk e0.1) (hp : OkP p) (hpg : PgS w0 ap p) (hB : w0.heap.size ≤ bp) (bm : Nat) :
    Visits p w0 bm 60 #[.pointer (some ⟨bp, 0, none⟩), .pointer (some ⟨be, 0, none⟩), .pointer (some ⟨bw, 0, none⟩), .pointer (some ⟨bf, 0, none⟩)] (fun _ => 0) (goW p (enE e0)) (QWay ap p.length cp bp be bw bf bm (enE e0)) where
  grow := fun _ _ _ => Nat.zero_le _
  ent := enters_of Try.func60 (by kernel_rfl) rfl
  call := fun v X w s picks a c _ hQ _ hb hs hI hX => way_call p w0 ap cp bp be bw bf bm e0 he0 hp hpg v X w s picks a c hQ hb hs hI hX
  keep := fun _ _ _ _ h hn k => h.keep hn k
  lt := fun v X w h k hk => by
    obtain ⟨o1, o2, o3⟩ := h.ord
    rcases (h.hX k).1 hk with rfl | rfl
    · refine ⟨by omega, ?_⟩
      rcases h.way with ⟨_, hh⟩ | ⟨_, _, _, _, hh, _⟩
      · exact hh.lt
      · exact hh.lt
    · exact ⟨by omega, h.fnd.lt⟩
/-- What Way answers. -/
def WayP (p : List (List Ev)) (e : EnD) (w : World) (r : Ending) (w' : World) : Prop :=
  Below w.heap.size w w' ∧ ((chkE p ≠ 0 ∧ r = .returned (.tuple #[.slice none 0 0, .int .i64 (chkE p)])) ∨
    (chkE p = 0 ∧ (walkP p (goW p (enE e)) none).1.2 = none ∧ r = .returned (.tuple #[.slice none 0 0, .int .i64 7])) ∨
    (chkE p = 0 ∧ ∃ way a c, (walkP p (goW p (enE e)) none).1.2 = some way ∧ r = .returned (.tuple #[.slice a way.length c, .int .i64 0]) ∧ IntS w' a way))
set_option maxRecDepth 100000 in
set_option maxHeartbeats 8000000 in
theorem way_any (p : List (List Ev)) (e : EnD) (ap : Option Addr) (cp : Nat) (w : World) (h : PgS w ap p) (he : NumOk e.1) :
    Calls Try.prog 27 #[.slice ap p.length cp, .agg (enE e)] w (WayP p e w) := by
  have hck := fun (w1 : World) (h1 : Below w.heap.size w w1) => checkE_any p ap cp w1 (h.below h1)
  have hsz := enE_size e
  obtain ⟨E, hE⟩ : ∃ E, enE e = E := ⟨_, rfl⟩
  have HE := Lib.hid hE
  rw [hE] at hsz ⊢
  go_enter Try.func27, Try.ntmps27
  go_upto_region 1 with fail
  generalize hW : World.alloc (World.alloc _ _) _ = W
  have hP : Has W w.heap.size #[.slice ap p.length cp] pgT := by rw [← hW]; exact (Has.new w _ _).alloc _
  have hF : Has W (w.heap.size + 1) E endT := by rw [← hW]; exact (Has.new _ _ _).at (by simp)
  have hk : Below w.heap.size w W := by rw [← hW]; exact ((Below.refl _ _).alloc (Nat.le_refl _) _).alloc (by simp) _
  have hs1 : W.heap.size = w.heap.size + 2 := by rw [← hW]; simp
  clear hW
  have c1 : W.cell? ⟨w.heap.size, 0, none⟩ = some (.slice ap p.length cp) := hP.cell rfl
  have hck1 := hck W hk
  clear hck
  by_cases hc : chkE p = 0
  · obtain ⟨hp, htot⟩ := chkE_ok hc
    rw [hc] at hck1
    go_wp2_with fail
    refine hck1.mono ?_
    rintro r w1 ⟨rfl, hb1⟩
    have hP1 := hP.below hb1 hP.lt
    have hF1 := hF.below hb1 hF.lt
    have hk1 := hk.trans (hb1.mono hk.size)
    have hsw := hb1.size
    clear hck1 hb1 hP hF hk c1
    go_upto_region 6 with fail
    generalize hW2 : World.alloc (World.alloc _ _) _ = W2
    have hA2 : Has W2 w1.heap.size #[.slice none 0 0] insT := by rw [← hW2]; exact (Has.new w1 _ _).alloc _
    have hB2 : Has W2 (w1.heap.size + 1) #[.bool false] 4 := by rw [← hW2]; exact (Has.new _ _ _).at (by simp)
    have hb2 : Below w1.heap.size w1 W2 := by rw [← hW2]; exact ((Below.refl _ _).alloc (Nat.le_refl _) _).alloc (by simp) _
    have hs2 : W2.heap.size = w1.heap.size + 2 := by rw [← hW2]; simp
    clear hW2
    have hP2 := hP1.below hb2 hP1.lt
    have hF2 := hF1.below hb2 hF1.lt
    have hk2 := hk1.trans (hb2.mono hk1.size)
    have hQ : QWay ap p.length cp w.heap.size (w.heap.size + 1) w1.heap.size (w1.heap.size + 1) W2.heap.size (enE e) none (fun k => k = w1.heap.size ∨ k = w1.heap.size + 1) W2 :=
      ⟨hP2, by rw [hE]; exact hF2, ⟨by omega, by omega, by omega⟩, .inl ⟨rfl, hA2⟩, hB2, fun k => Iff.rfl, ⟨by omega, by omega⟩⟩
    have hwk := walked_ok (cp := cp) hp h (way_visits p w ap cp w.heap.size (w.heap.size + 1) w1.heap.size (w1.heap.size + 1) e he hp h (Nat.le_refl _)) htot none rfl _ W2 hQ hk2
    have hws := hk1.size
    have HC := Lib.hid hc
    have c2 : W2.cell? ⟨w.heap.size, 0, none⟩ = some (.slice ap p.length cp) := hP2.cell rfl
    clear hc hP1 hF1 hk1 hb2 hA2 hB2 hP2 hF2 hQ
    go_wp2_with fail
    refine hwk.mono ?_
    rintro r w3 ⟨rfl, X', hQ3, hkv, hnx⟩
    have hX := hQ3.hX
    have hk3 : Below w.heap.size w w3 := hk2.trans (hkv.below hk2.size fun k hk => by rcases hk with rfl | rfl <;> omega)
    have hway := hQ3.way
    have hfnd := hQ3.fnd.cell (i := 0) rfl
    clear hwk hkv hnx c2
    generalize hG : (walkP p (goW p (enE e)) none).1.2 = G at *
    have HG := Lib.hid hG
    clear hG
    cases G with
    | none =>
      clear hway hQ3
      go_wp2
      go_ret2
      exact ⟨hk3, .inr (.inl ⟨HC.out, HG.out, rfl⟩)⟩
    | some way =>
      rcases hway with ⟨h0, _⟩ | ⟨pk, a, c, h0, hh, hI, _⟩
      · cases h0
      · cases h0
        have g := hh.cell (i := 0) rfl
        clear hQ3 hh
        go_wp2
        go_ret2
        exact ⟨hk3, .inr (.inr ⟨HC.out, _, _, _, HG.out, rfl, hI⟩)⟩
  · have e1 : (chkE p != 0) = true := bne_iff_ne.2 hc
    have e2 : (chkE p == 0) = false := beq_eq_false_iff_ne.2 hc
    have e3 : decide (chkE p = 0) = false := decide_eq_false hc
    have HC := Lib.hid hc
    clear hc
    obtain ⟨C, hC⟩ : ∃ C, chkE p = C := ⟨_, rfl⟩
    have HCC := Lib.hid hC
    rw [hC] at hck1 e1 e2 e3
    clear hC
    go_wp2_with fail
    refine hck1.mono ?_
    rintro r w1 ⟨rfl, hb1⟩
    have hk1 := hk.trans (hb1.mono hk.size)
    clear hck1 hb1 hP hF hk c1
    go_wp2
    go_ret2
    exact ⟨hk1, .inl ⟨HC.out, by rw [HCC.out]; rfl⟩⟩
end Go.Proofs.Ytoohconipcleiaa
