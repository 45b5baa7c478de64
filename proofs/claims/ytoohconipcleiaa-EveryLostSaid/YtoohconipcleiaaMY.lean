/- Joined texts. -/
import Derived.Test.YtoohconipcleiaaEvF
import Derived.Test.YtoohconipcleiaaEvD
import Derived.Test.YtoohconipcleiaaEvA
import Derived.Test.YtoohconipcleiaaEvS
import Derived.Test.YtoohconipcleiaaNG

/- Contract of every.Ends. -/
namespace Go.Proofs.Ytoohconipcleiaa
open Go.RowKit

theorem Kept.belowAt {X : Nat → Prop} {w w1 w2 : World} (h1 : Below w.heap.size w w1) (h2 : Kept X w1 w2) (hx : ∀ k, X k → w.heap.size ≤ k) : Below w.heap.size w w2 := h1.trans (h2.below h1.size hx)
set_option maxRecDepth 100000 in
theorem ends_visits (p : List (List Ev)) (w0 : World) (ap : Option Addr) (cp bp bo : Nat) (hp : OkP p) (hpg : PgS w0 ap p) (hB : w0.heap.size ≤ bp) (bm : Nat) :
    Visits p w0 bm 56 #[.pointer (some ⟨bp, 0, none⟩), .pointer (some ⟨bo, 0, none⟩)] List.length (goE p) (QEnd ap p.length cp bp bo bm) where
  grow := fun v s _ => by
    show (if _ then v ++ [enS p s] else v).length ≤ _
    split <;> simp
  ent := enters_of Try.func56 (by kernel_rfl) rfl
  call := fun v X w s picks a c hl hQ _ hb hs _ _ => ends_call p w0 ap cp bp bo bm hp hpg v X w s picks a c hl hQ hb hs hB
  keep := fun _ _ _ _ h hn k => h.keep hn k
  lt := fun v X w h k hk => by
    obtain ⟨u, h1, h2, h3⟩ := h.row
    have := h.lt
    rcases (h3 k).1 hk with rfl | e
    · exact ⟨by omega, h1.lt⟩
    · have := h2.lt k e
      exact ⟨by omega, this.2⟩
/-- What Ends answers. -/
def EndsP (p : List (List Ev)) (w : World) (r : Ending) (w' : World) : Prop :=
  Below w.heap.size w w' ∧ ((chkE p ≠ 0 ∧ r = .returned (.tuple #[.slice none 0 0, .int .i64 (chkE p)])) ∨
    (chkE p = 0 ∧ ∃ all a c, AllE p all ∧ r = .returned (.tuple #[.slice a all.length c, .int .i64 0]) ∧ EnS w' a all ∧ ∀ x ∈ all, NumOk x.1))
set_option maxRecDepth 100000 in
set_option maxHeartbeats 8000000 in
theorem ends_any (p : List (List Ev)) (ap : Option Addr) (cp : Nat) (w : World) (h : PgS w ap p) :
    Calls Try.prog 25 #[.slice ap p.length cp] w (EndsP p w) := by
  have hck := fun (w1 : World) (h1 : Below w.heap.size w w1) => checkE_any p ap cp w1 (h.below h1)
  go_enter Try.func25, Try.ntmps25
  go_upto_region 1 with fail
  generalize hW : World.alloc _ _ = W
  have hP : Has W w.heap.size #[.slice ap p.length cp] pgT := by rw [← hW]; exact Has.new w _ _
  have hk : Below w.heap.size w W := by rw [← hW]; exact (Below.refl _ _).alloc (Nat.le_refl _) _
  have hs1 : W.heap.size = w.heap.size + 1 := by rw [← hW]; simp
  clear hW
  have c1 : W.cell? ⟨w.heap.size, 0, none⟩ = some (.slice ap p.length cp) := hP.cell rfl
  have hck1 := hck W hk
  clear hck
  by_cases hc : chkE p = 0
  · obtain ⟨hp, htot⟩ := chkE_ok hc
    rw [hc] at hck1
    go_wp2_with fail
    refine hck1.mono ?_
    rintro r w1 ⟨rfl, hb1⟩
    have hP1 := hP.below hb1 hP.lt
    have hk1 := hk.trans (hb1.mono hk.size)
    have hsw := hb1.size
    clear hck1 hb1 hP hk c1
    go_upto_region 5 with fail
    generalize hW2 : World.alloc _ _ = W2
    have hA2 : Has W2 w1.heap.size #[.slice none 0 0] ensT := by rw [← hW2]; exact Has.new w1 _ _
    have hb2 : Below w1.heap.size w1 W2 := by rw [← hW2]; exact (Below.refl _ _).alloc (Nat.le_refl _) _
    have hs2 : W2.heap.size = w1.heap.size + 1 := by rw [← hW2]; simp
    clear hW2
    have hP2 := hP1.below hb2 hP1.lt
    have hk2 := hk1.trans (hb2.mono hk1.size)
    have hQ : QEnd ap p.length cp w.heap.size w1.heap.size W2.heap.size [] (fun k => k = w1.heap.size ∨ (Value.slice none 0 0).ownBlock = some k) W2 :=
      ⟨hP2, by omega, ⟨_, hA2, ⟨rfl, .inl ⟨rfl, rfl⟩⟩, fun k => Iff.rfl⟩, fun x hx => (by cases hx), by omega⟩
    have hwk := walked_ok (cp := cp) hp h (ends_visits p w ap cp w.heap.size w1.heap.size hp h (Nat.le_refl _)) htot [] rfl _ W2 hQ hk2
    have hws := hk1.size
    have HC := Lib.hid hc
    have c2 : W2.cell? ⟨w.heap.size, 0, none⟩ = some (.slice ap p.length cp) := hP2.cell rfl
    clear hc hP1 hk1 hb2 hA2 hP2 hQ
    go_wp2_with fail
    refine hwk.mono ?_
    rintro r w3 ⟨rfl, X', hQ3, hkv, hnx⟩
    have hAll : AllE p (walkP p (goE p) []).1.2 := ⟨List.Perm.refl _, hp, htot⟩
    obtain ⟨v, hrow, hown, hX⟩ := hQ3.row
    have hnum := hQ3.num
    have hk3 : Below w.heap.size w w3 := hk2.trans (hkv.below hk2.size fun k hk => by
      rcases hk with rfl | e
      · omega
      · simp [Value.ownBlock] at e)
    have hne := hAll.nonempty
    have hbig : (walkP p (goE p) []).1.2.length < 4611686018427387904 := Nat.lt_trans (out_len hp) (by decide)
    clear hwk hkv hnx c2 hQ3
    generalize (walkP p (goE p) []).1.2 = out at *
    rcases hown.2 with ⟨_, h0⟩ | ⟨g, cap, cur, rfl, hbg, hh, hnc, hcm, hcs, hcur⟩
    · exact absurd (List.eq_nil_of_length_eq_zero h0) hne
    · have c3 : w3.cell? ⟨w1.heap.size, 0, none⟩ = some (.slice (some ⟨g, 0, none⟩) out.length cap) := hrow.cell rfl
      have hst := sortE_any out g cap cur w3 hh hcur hbig
      go_wp2_with fail
      refine hst.mono ?_
      rintro r w4 ⟨rfl, out', hperm, hES, hk4⟩
      have hrow4 := hk4.has hrow (show ¬ w1.heap.size = g by omega)
      have c4 : w4.cell? ⟨w1.heap.size, 0, none⟩ = some (.slice (some ⟨g, 0, none⟩) out.length cap) := hrow4.cell rfl
      have hk5 : Below w.heap.size w w4 := hk3.trans (hk4.below hk3.size fun k e => by omega)
      have hAll' : AllE p out' := ⟨hperm.trans hAll.perm, hp, htot⟩
      have hnum' : ∀ x ∈ out', NumOk x.1 := fun x hx => hnum x (hperm.mem_iff.1 hx)
      have hl : out.length = out'.length := hperm.length_eq.symm
      rw [hl] at c4
      clear hst hrow hrow4 hk4 hk3 c3 hown hh hcur hX hAll hne hnum hl hperm
      go_wp2
      go_ret2
      exact ⟨hk5, .inr ⟨HC.out, _, _, _, hAll', rfl, hES, hnum'⟩⟩
  · have e1 : (chkE p != 0) = true := bne_iff_ne.2 hc
    have e2 : (chkE p == 0) = false := beq_eq_false_iff_ne.2 hc
    have e3 : decide (chkE p = 0) = false := decide_eq_false hc
    have HC := Lib.hid hc
    clear hc
    obtain ⟨C, hC⟩ : ∃ C, chkE p = C := ⟨_, rfl⟩
    have HCC := Lib.hid hC
    rw [hC] at hck1 e1 e2 e3
    clear hC
    go_wp2_with fail
    refine hck1.mono ?_
    rintro r w1 ⟨rfl, hb1⟩
    have hk1 := hk.trans (hb1.mono hk.size)
    clear hck1 hb1 hP hk c1
    go_wp2
    go_ret2
    exact ⟨hk1, .inl ⟨HC.out, by rw [HCC.out]; rfl⟩⟩
end Go.Proofs.Ytoohconipcleiaa

/- The closed fact of the laws on all ends: a program of one addition. -/
namespace Go.Proofs.Ytoohconipcleiaa
open Go.RowKit

set_option maxRecDepth 100000 in
set_option maxHeartbeats 4000000 in
theorem everied_any (w : World) : Calls Try.prog 22 #[] w fun r w' => r = .returned (.bool true) ∧ Below w.heap.size w w' := by
  have hends := fun (w1 : World) (a : Option Addr) (h : PgS w1 a pOne) => ends_any pOne a 1 w1 h
  have hl1 : pOne.length = 1 := rfl
  rw [hl1] at hends
  go_enter Try.func22, Try.ntmps22
  go_wp2_with fail
  generalize hW : World.alloc (World.alloc _ _) _ = W
  have hk : Below w.heap.size w W := by rw [← hW]; exact ((Below.refl _ _).alloc (Nat.le_refl _) _).alloc (by simp) _
  have hP : PgS W (some ⟨w.heap.size + 1, 0, none⟩) pOne := by
    have h1 : Has W w.heap.size #[.int .i64 3, .int .i64 0, .int .i64 1] 40 := by rw [← hW]; exact (Has.new w _ _).alloc _
    have h2 : Has W (w.heap.size + 1) #[.slice (some ⟨w.heap.size, 0, none⟩) 1 1] 38 := by rw [← hW]; exact (Has.new _ _ _).at (by simp)
    refine ⟨by decide, .inr ⟨w.heap.size + 1, 0, rfl, fun t ht => ?_⟩⟩
    obtain rfl : t = 0 := by simp [pOne] at ht; exact ht
    exact ⟨some ⟨w.heap.size, 0, none⟩, 1, h2.cell rfl, evS_full (l := [⟨3, 0, 1⟩]) h1 rfl (by decide)⟩
  clear hW
  refine (hends W _ hP).mono ?_
  rintro r w1 ⟨hb1, h⟩
  have hk1 := hk.trans (hb1.mono hk.size)
  rcases h with ⟨h0, _⟩ | ⟨_, all, a, c, hA, rfl, hES, _⟩
  · exact absurd (by decide) h0
  · obtain ⟨x, rfl, hx1, hx2, _⟩ := everied_out hA
    obtain ⟨b, o, rfl, hr⟩ := hES.at (i := 0) (by simp)
    have g1 : w1.cell? ⟨b, o + 0 * 20 + 12, none⟩ = some (.int .i64 1) := hr 12 _ (by
      rw [Array.getElem?_toList]
      show (endC x.1 x.2.1 x.2.2)[12]? = _
      rw [endC_get _ _ _ (by omega)]
      simp [psF, hx1])
    have g2 : w1.cell? ⟨b, o + 0 * 20 + 18, none⟩ = some (.bool true) := hr 18 _ (by
      rw [Array.getElem?_toList]
      show (endC x.1 x.2.1 x.2.2)[18]? = _
      rw [endC_get _ _ _ (by omega)]
      simp [psF, hx2])
    rw [Nat.zero_mul, Nat.add_zero] at g1 g2
    clear hends hP hk hA hES hr hb1 hx1 hx2
    go_wp2
    go_ret
    exact ⟨rfl, hk1⟩
end Go.Proofs.Ytoohconipcleiaa
