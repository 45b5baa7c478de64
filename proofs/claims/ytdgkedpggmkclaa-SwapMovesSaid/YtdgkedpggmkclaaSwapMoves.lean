/- SwapMoves: an event can be moved before adjacent events of which it is independent, and the trace remains equivalent: for every trace and every number. -/
import Derived.Test.YtdgkedpggmkclaaRows
import Derived.Test.YtdgkedpggmkclaaSwpC
import Derived.Test.YtdgkedpggmkclaaLeg
import Derived.Test.YtdgkedpggmkclaaQui
import Derived.Test.YtdgkedpggmkclaaMov
import Derived.Test.YtdgkedpggmkclaaEvs
import Derived.Test.YtdgkedpggmkclaaOpenE
import Derived.Deep.RegionLaw
namespace Go.Proofs.Ytdgkedpggmkclaa
open Go.ChangeShapes Go.WideShapes Go.ChangeAt Go.RowKit

theorem eqEv_one (L : List Ev) (n m : Nat) (hn : L.length = n) (hm : L.length = m) (a a' : Option Addr) (c c' : Nat) (w : World) (h : EvS w a L) (h' : EvS w a' L) :
    Calls Try.prog 24 #[.slice a n c, .slice a' m c'] w fun e w' => e = .returned (.bool true) ∧ Below w.heap.size w w' := by
  subst hn; subst hm
  have := eqEv_any L L a a' c c' w h h'
  rwa [show eqB L L = true by simp [eqB]] at this
theorem swOk_mv {l : List Ev} {j k : Nat} (hj : j < l.length) (hk : k + 1 ≤ j) (hA : apartB (eg l k) (eg l j) = true) (hp : (played l).2.2 = 0) (h : SwEq l (mvL l j (k + 1))) : swOk (mvL l j (k + 1)) (k : Int) = true := by
  obtain ⟨e1, e2⟩ := mv_at hj hk
  have e3 := mv_len hj hk
  unfold swOk
  rw [show (mvL l j (k + 1)).getD (k : Int).toNat ⟨0, 0, 0⟩ = eg l k from e1, show (mvL l j (k + 1)).getD ((k : Int).toNat + 1) ⟨0, 0, 0⟩ = eg l j from e2, hA, h.ok hp]
  simp [e3]
  omega
/-- What the middle of the law leaves. -/
def MovMid (z : List Ev) (j : Nat) (w0 : World) (m k : Value) (w : World) : Prop := ∃ (i : Nat) (a : Option Addr) (c : Nat), i ≤ j ∧ k = .int .i64 i ∧ m = .slice a z.length c ∧ EvS w a (mvL z j i) ∧ Below w0.heap.size w0 w
set_option maxRecDepth 100000 in
set_option maxHeartbeats 8000000 in
theorem swapMoves_ok (a : Option Addr) (z : List Ev) (c : Nat) (n : Int) (w : World) (h : EvS w a z) (hc : z.length ≤ c) (hp : (played z).2.2 = 0) (hz : 0 < z.length) :
    Calls Try.prog 6 #[.slice a z.length c, .int .i64 n] w fun e w' => e = .returned (.bool true) ∧ Below w.heap.size w w' := by
  have hl80 := (played_evs hp).1
  obtain ⟨i0, hi, hz0, hz1, hz2⟩ := info_parts infoE
  have q0 := Int.emod_nonneg n (show (z.length : Int) ≠ 0 by omega)
  have q1 := Int.emod_lt_of_pos n (show 0 < (z.length : Int) by omega)
  obtain ⟨j, hj⟩ := Int.eq_ofNat_of_zero_le q0
  have hjz : j < z.length := by omega
  have HJ := Lib.hid hj
  have hmay : mayB z = true := by simp [mayB, hp]
  have HM := Lib.hid hmay
  have HP := Lib.hid hp
  have hne : ((z.length : Int) == 0) = false := by rw [beq_eq_false_iff_ne]; omega
  obtain ⟨g, o, rfl, _⟩ := h.at hjz
  clear hj q0 q1 hmay hp
  go_enter Try.func6, Try.ntmps6
  go_wp2_with fail
  refine (swapped_any _).mono ?_
  rintro r w1 ⟨rfl, hb⟩
  go_wp2_with fail
  refine (may_any z _ c _ (h.below hb)).mono ?_
  rintro r w2 ⟨rfl, hk⟩
  rw [HM.out]
  replace hb := hb.trans (hk.mono hb.size)
  clear hk
  go_wp2_with fail
  refine (rest_any n (z.length : Int) _ (by omega) (by omega)).mono ?_
  rintro r w3 ⟨rfl, rfl⟩
  rw [HJ.out]
  replace h := h.below hb
  generalize w3 = w4 at *
  have hI := Below.refl w4.heap.size w4
  clear HJ HM hne
  go_wp2
  go_loopw [5, 6] (fun m k wr => MovMid z j w4 m k wr ∧ Hid (∀ i : Nat, k = .int .i64 (i : Int) → SwEq z (mvL z j i))) (fun _ k _ => (intOf k).toNat)
  case atStart => exact ⟨⟨j, _, _, Nat.le_refl _, rfl, rfl, by rw [mv_self hjz]; exact h, hI⟩, Lib.hid (fun i e => by cases e; rw [mv_self hjz]; exact .refl _)⟩
  case round =>
    clear hI
    obtain ⟨⟨k, a5, c5, hk, rfl, rfl, hM, hb4⟩, HE⟩ := hrel
    have HSE := Lib.hid (HE.out k rfl)
    clear HE
    have hkz : k < z.length := by omega
    have hck : ¬ c = k := by omega
    have hcond : (¬ 0 < k) ∨ (∃ i : Nat, k = i + 1 ∧ apartB (eg z i) (eg z j) = false) ∨ ∃ i : Nat, k = i + 1 ∧ apartB (eg z i) (eg z j) = true := by
      by_cases h0 : 0 < k
      · obtain ⟨i, rfl⟩ : ∃ i, k = i + 1 := ⟨k - 1, by omega⟩
        cases hq : apartB (eg z i) (eg z j)
        · exact .inr (.inl ⟨i, rfl, hq⟩)
        · exact .inr (.inr ⟨i, rfl, hq⟩)
      · exact .inl h0
    have hzr := h.below hb4
    have HZ := Lib.hid fun (i : Nat) (hi : i < z.length) (p : Beyond wr) => show p.to.cell? ⟨g, o + i * 3, none⟩ = some (.int .i64 (eg z i).k) ∧ p.to.cell? ⟨g, o + i * 3 + 1, none⟩ = some (.int .i64 (eg z i).t) ∧ p.to.cell? ⟨g, o + i * 3 + 2, none⟩ = some (.int .i64 (eg z i).o) by
      obtain ⟨g', o', e, c0, c1, c2⟩ := hzr.at hi
      cases e
      rw [eg_get hi]
      exact ⟨p.cell c0, p.cell c1, p.cell c2⟩
    have j0 : (0 : Int) ≤ j := by omega
    have j1 : (j : Int) < z.length := by omega
    obtain ⟨y, hy⟩ : ∃ y, eg z j = y := ⟨_, rfl⟩
    have hz2' := HZ.out j hjz
    rw [hy] at hz2'
    have HY := Lib.hid hy
    have HCA := Lib.hid fun (x : Ev) (p : Beyond wr) => beyond_of (apart_any x y p.to)
    have hmq : evL (mvL z j k) = [] ++ evL (z.take k) ++ evL [y] ++ evL ((z.take j).drop k) ++ evL (z.drop (j + 1)) := by
      rw [mvL, hy, evL_append, evL_append, evL_append, List.nil_append]
    have hmn : (mvL z j k).length = 0 + k + 1 + (j - k) + (z.length - (j + 1)) := by rw [mv_len hjz hk]; omega
    have HMQ := Lib.hid hmq
    have HMN := Lib.hid hmn
    rw [hy] at hcond
    clear hmq hmn
    rcases hcond with hk0 | ⟨i, hki, hA⟩ | ⟨i, hki, hA⟩
    case' inr.inr =>
      rw [← hy] at hA
      have HOK := Lib.hid (swOk_mv hjz (hki ▸ hk) hA HP.out (hki ▸ HSE.out))
      have hmvl := mv_len hjz hk
      have HSW := Lib.hid (mv_sw hjz (hki ▸ hk))
      have HST := Lib.hid (mv_step hjz (hki ▸ hk) hA (hki ▸ HSE.out))
      rw [hy] at hA
      subst hki
    case' inl =>
      have hd : decide (0 < k) = false := decide_eq_false hk0
      clear HZ hy HCA hz2'
      go_wp2
      refine wp_region_beyond (by kernel_rfl) (by kernel_rfl) ?_
      repeat (with_reducible refine wpQuiet_step (fun K hK => ?_); go_simp; with_reducible refine hK _ ?_; clear hK K)
      with_reducible refine wpQuiet_nil ?_
      rintro _ ⟨p, rfl⟩
      clear hk0 hd
    case' inr.inl =>
      have hd : decide (0 < k) = true := decide_eq_true (by omega)
      have hi1 : (k : Int) - 1 = (i : Int) := by omega
      have hiw := IntWalk.i64_in (i : Int) (by omega)
      have i0' : (0 : Int) ≤ i := by omega
      have i1' : (i : Int) < z.length := by omega
      have HC2 := Lib.hid (HCA.out (eg z i))
      rw [hA] at HC2
      have hz1' := HZ.out i (by omega)
      clear HZ hki hy HCA
      generalize eg z i = x at *
      obtain ⟨x0, x1, x2⟩ : (∀ p : Beyond wr, p.to.cell? ⟨g, o + i * 3, none⟩ = some (.int .i64 x.k)) ∧ (∀ p : Beyond wr, p.to.cell? ⟨g, o + i * 3 + 1, none⟩ = some (.int .i64 x.t)) ∧ (∀ p : Beyond wr, p.to.cell? ⟨g, o + i * 3 + 2, none⟩ = some (.int .i64 x.o)) := ⟨fun p => (hz1' p).1, fun p => (hz1' p).2.1, fun p => (hz1' p).2.2⟩
      obtain ⟨y0, y1, y2⟩ : (∀ p : Beyond wr, p.to.cell? ⟨g, o + j * 3, none⟩ = some (.int .i64 y.k)) ∧ (∀ p : Beyond wr, p.to.cell? ⟨g, o + j * 3 + 1, none⟩ = some (.int .i64 y.t)) ∧ (∀ p : Beyond wr, p.to.cell? ⟨g, o + j * 3 + 2, none⟩ = some (.int .i64 y.o)) := ⟨fun p => (hz2' p).1, fun p => (hz2' p).2.1, fun p => (hz2' p).2.2⟩
      clear hz1' hz2'
      go_wp2
      refine wp_region_beyond (by kernel_rfl) (by kernel_rfl) ?_
      repeat (with_reducible refine wpQuiet_step (fun K hK => ?_); go_simp; first | (with_reducible refine hK _ ?_) | (refine ⟨_, HC2.out, ?_⟩; with_reducible refine hK _ ?_); clear hK K)
      with_reducible refine wpQuiet_nil ?_
      rintro _ ⟨p, rfl⟩
      clear x0 x1 x2 y0 y1 y2 hd hi1 hiw i0' i1' HC2 hA
    case inr.inr =>
      have hi1 : ((i + 1 : Nat) : Int) - 1 = (i : Int) := by omega
      have hiw := IntWalk.i64_in (i : Int) (by omega)
      have i0' : (0 : Int) ≤ i := by omega
      have i1' : (i : Int) < z.length := by omega
      have HC2 := Lib.hid (HCA.out (eg z i))
      rw [hA] at HC2
      have hz1' := HZ.out i (by omega)
      clear HZ hA hy HCA HMQ HMN
      generalize eg z i = x at *
      obtain ⟨x0, x1, x2⟩ : (∀ p : Beyond wr, p.to.cell? ⟨g, o + i * 3, none⟩ = some (.int .i64 x.k)) ∧ (∀ p : Beyond wr, p.to.cell? ⟨g, o + i * 3 + 1, none⟩ = some (.int .i64 x.t)) ∧ (∀ p : Beyond wr, p.to.cell? ⟨g, o + i * 3 + 2, none⟩ = some (.int .i64 x.o)) := ⟨fun p => (hz1' p).1, fun p => (hz1' p).2.1, fun p => (hz1' p).2.2⟩
      obtain ⟨y0, y1, y2⟩ : (∀ p : Beyond wr, p.to.cell? ⟨g, o + j * 3, none⟩ = some (.int .i64 y.k)) ∧ (∀ p : Beyond wr, p.to.cell? ⟨g, o + j * 3 + 1, none⟩ = some (.int .i64 y.t)) ∧ (∀ p : Beyond wr, p.to.cell? ⟨g, o + j * 3 + 2, none⟩ = some (.int .i64 y.o)) := ⟨fun p => (hz2' p).1, fun p => (hz2' p).2.1, fun p => (hz2' p).2.2⟩
      clear hz1' hz2'
      go_wp2
      refine wp_region_beyond (by kernel_rfl) (by kernel_rfl) ?_
      repeat (with_reducible refine wpQuiet_step (fun K hK => ?_); go_simp; first | (with_reducible refine hK _ ?_) | (refine ⟨_, HC2.out, ?_⟩; with_reducible refine hK _ ?_); clear hK K)
      with_reducible refine wpQuiet_nil ?_
      rintro _ ⟨p, rfl⟩
      have hbp := p.below
      clear x0 x1 x2 y0 y1 y2 HC2
      generalize p.to = w5 at *
      replace hM := hM.below hbp
      replace hb4 := hb4.trans (hbp.mono hb4.size)
      clear p hbp
      go_wp2_with fail
      refine (swap_y (mvL z j (i + 1)) z.length hmvl _ _ _ _ hM HOK.out).mono ?_
      rintro r w6 ⟨a6, c6, rfl, hM6, _, hk6⟩
      replace hb4 := hb4.trans (hk6.mono hb4.size)
      rw [Int.toNat_natCast, HSW.out] at hM6 ⊢
      have hml := mv_len hjz (show i ≤ j by omega)
      rw [hml]
      clear hk6 HOK HSW hM hzr
      go_wp2
      go_roundw
      case rel => exact ⟨⟨i, _, _, by omega, by go_num, rfl, hM6, hb4⟩, Lib.hid (fun i' e => by cases e; exact HST.out)⟩
      case measure => (simp [intOf]; try omega)
    all_goals
      replace hb4 := hb4.trans (p.below.mono hb4.size)
      replace hM := hM.below p.below
      replace hzr := hzr.below p.below
      generalize p.to = w5 at *
      clear p
      have HS1 := Lib.hid fun (W : World) (hW : Below w5.heap.size w5 W) => show Src W 3 (some ⟨g, o, none⟩) k (evL (z.take k)) by
        have := ((hzr.below hW).take k).src
        rwa [show (z.take k).length = k by simp; omega] at this
      have HS3 := Lib.hid fun (W : World) (hW : Below w5.heap.size w5 W) => show Src W 3 (some ⟨g, o + k * 3, none⟩) (j - k) (evL ((z.take j).drop k)) by
        have := (((hzr.below hW).take j).drop k).src
        rwa [show ((z.take j).drop k).length = j - k by simp; omega] at this
      have HS4 := Lib.hid fun (W : World) (hW : Below w5.heap.size w5 W) => show Src W 3 (if c = j + 1 then some ⟨g, o, none⟩ else some ⟨g, o + (j + 1) * 3, none⟩) (z.length - (j + 1)) (evL (z.drop (j + 1))) by
        have := ((hzr.below hW).tail (j + 1) c hc).src
        rwa [show (z.drop (j + 1)).length = z.length - (j + 1) by simp] at this
      have HZ5 := Lib.hid fun (W : World) (hW : Below w5.heap.size w5 W) => show W.cell? ⟨g, o + j * 3, none⟩ = some (.int .i64 y.k) ∧ W.cell? ⟨g, o + j * 3 + 1, none⟩ = some (.int .i64 y.t) ∧ W.cell? ⟨g, o + j * 3 + 2, none⟩ = some (.int .i64 y.o) by
        obtain ⟨g', o', e, c0, c1, c2⟩ := (hzr.below hW).at hjz
        cases e
        rw [← HY.out, eg_get hjz]
        exact ⟨c0, c1, c2⟩
      have B1 := (Below.refl w5.heap.size w5).drew
      have B2 := ((Below.refl w5.heap.size w5).alloc (Nat.le_refl _) (.cells (evC y) 34)).drew
      obtain ⟨d0, d1, d2⟩ := HZ5.out _ (Below.refl _ w5)
      have k0 : (0 : Int) ≤ k := by omega
      have k1 : (k : Int) ≤ c := by omega
      have k2 : (k : Int) ≤ j := by omega
      have k3 : (j : Int) ≤ c := by omega
      have k4 : (0 : Int) ≤ (j : Int) + 1 := by omega
      have k5 : (j : Int) + 1 ≤ z.length := by omega
      have k6 : k ≤ j := hk
      have hjw := IntWalk.i64_in ((j : Int) + 1) (by omega)
      have hHY := HY
      clear HY
      go_upto_region 14 with fail
      go_region_law (first
        | (refine app_step _ rfl (.const (.slice none 0 0)) (.tmp 56) 28 rfl Try.underlying28 hi hz0 hz1 hz2 rfl (by decide) (by conv => lhs; simp [go_sem]) (World.ownsRow_nil _ w5.heap.size _ _) (A := some ⟨g, o, none⟩) (m := k) (c := c) (news := evL (z.take k)) (by simp [go_sem]) (by with_reducible exact HS1.out _ B1) (evL_one _) (by unfold maxLen; omega) (by omega) (by simp) ?_; intro v6 w6 hA1; have hB6 := hA1.below (World.ownsRow_nil _ w5.heap.size _ _) B1 (by simp); have ho6 := hA1.own; obtain ⟨d0, d1, d2⟩ := HZ5.out _ hB6; have hs6 := hB6.size; clear hA1)
        | (refine app_step _ rfl (.const (.slice none 0 0)) (.tmp 56) 28 rfl Try.underlying28 hi hz0 hz1 hz2 rfl (by decide) (by conv => lhs; simp [go_sem]) (World.ownsRow_nil _ w5.heap.size _ _) (A := some ⟨g, o, none⟩) (m := k) (c := c) (news := evL (z.take k)) (by simp [go_sem]) (by with_reducible exact HS1.out _ B2) (evL_one _) (by unfold maxLen; omega) (by omega) (by simp) ?_; intro v6 w6 hA1; have hB6 := hA1.below (World.ownsRow_nil _ w5.heap.size _ _) B2 (by simp); have ho6 := hA1.own; have hX6 := (Has.new w5 (evC y) 34).drew.below hA1.fresh (by simp); have hs6 := hB6.size; clear hA1)
        | (refine app_step _ rfl (.tmp 57) (.tmp 62) 28 rfl Try.underlying28 hi hz0 hz1 hz2 rfl (by decide) (by conv => lhs; simp [go_sem]) (ho6.alloc _) (A := some ⟨w6.heap.size, 0, none⟩) (m := 1) (c := 1) (news := evL [y]) (by simp [go_sem]) ⟨rfl, .inr ⟨_, rfl, fun j u hu => (Has.new w6 (evC y) 34).cell_add (by simpa [evL] using hu)⟩⟩ (evL_one _) (by unfold maxLen; omega) (by omega) (by simp; omega) ?_; intro v7 w7 hA2; have hB7 := hA2.below (ho6.alloc _) (hB6.alloc hs6 _) (by simp; omega); have ho7 := hA2.own; have hs7 := hB7.size; have hT3 := HS3.out _ hB7; clear hA2)
        | (refine app_step _ rfl (.tmp 57) (.tmp 62) 28 rfl Try.underlying28 hi hz0 hz1 hz2 rfl (by decide) (by conv => lhs; simp [go_sem]) ho6 (A := some ⟨w5.heap.size, 0, none⟩) (m := 1) (c := 1) (news := evL [y]) (by simp [go_sem]) ⟨rfl, .inr ⟨_, rfl, fun j u hu => hX6.cell_add (by simpa [evL] using hu)⟩⟩ (evL_one _) (by unfold maxLen; omega) (by omega) hs6 ?_; intro v7 w7 hA2; have hB7 := hA2.below ho6 hB6 hs6; have ho7 := hA2.own; have hs7 := hB7.size; have hT3 := HS3.out _ hB7; clear hA2)
        | (refine app_step _ rfl (.tmp 63) (.tmp 67) 28 rfl Try.underlying28 hi hz0 hz1 hz2 rfl (by decide) (by conv => lhs; simp [go_sem]) ho7 (A := some ⟨g, o + k * 3, none⟩) (m := j - k) (c := c - k) (news := evL ((z.take j).drop k)) (by simp [go_sem]) hT3 (evL_one _) (by unfold maxLen; omega) (by omega) hs7 ?_; intro v8 w8 hA3; have hB8 := hA3.below ho7 hB7 hs7; have ho8 := hA3.own; have hs8 := hB8.size; have hT4 := HS4.out _ hB8; clear hA3)
        | (refine app_step _ rfl (.tmp 68) (.tmp 72) 28 rfl Try.underlying28 hi hz0 hz1 hz2 rfl (by decide) (by conv => lhs; simp [go_sem]) ho8 (A := if c = j + 1 then some ⟨g, o, none⟩ else some ⟨g, o + (j + 1) * 3, none⟩) (m := z.length - (j + 1)) (c := c - (j + 1)) (news := evL (z.drop (j + 1))) (by simp [go_sem]) hT4 (evL_one _) (by unfold maxLen; omega) (by omega) hs8 ?_; intro v9 w9 hA4; have hB9 := hA4.below ho8 hB8 hs8; have ho9 := hA4.own; clear hA4))
      all_goals
        have hml := mv_len hjz k6
        have ho10 : w9.ownsRow w5.heap.size 34 3 v9 (mvL z j k).length (evL (mvL z j k)) := by rw [HMQ.out, HMN.out]; exact ho9
        have hex : ∃ a9 c9, v9 = .slice a9 z.length c9 ∧ EvS w9 a9 (mvL z j k) := by
          obtain ⟨a9, c9, e, hS9, _⟩ := evS_own ho10 (by rw [hml]; omega)
          rw [hml] at e
          exact ⟨a9, c9, e, hS9⟩
        obtain ⟨a9, c9, rfl, hS9⟩ := hex
        obtain ⟨he1, he2⟩ := sameB_moved HSE.out HP.out
        have hz9 := hzr.below hB9
        have hM9 := hM.below hB9
        have hb9 := hb.trans ((hb4.trans (hB9.mono hb4.size)).mono hb.size)
        have HE1 := Lib.hid he1
        have HE2 := Lib.hid he2
        have HML := Lib.hid hml
        clear hB6 hB7 hB8 hB9 ho6 ho7 ho8 ho9 ho10 hs6 hs7 hs8 hT3 hT4 HS1 HS3 HS4 HZ5 B1 B2 d0 d1 d2 hjw he1 he2 hml hzr hM hb4 hb HMQ HMN h HSE
        generalize mvL z j k = M at *
        generalize (if c = j + 1 then some (⟨g, o, none⟩ : Addr) else some ⟨g, o + (j + 1) * 3, none⟩) = A1 at *
        go_wp2_with fail
        refine (same_any z M _ _ rfl HML.out _ _ _ _ _ hz9 hM9).mono ?_
        rintro r w10 ⟨rfl, hk⟩
        rw [HE1.out, HE2.out]
        replace hb9 := hb9.trans (hk.mono hb9.size)
        replace hM9 := hM9.below hk
        replace hS9 := hS9.below hk
        clear hk hz9
        go_wp2_with fail
        refine (eqEv_one M _ _ HML.out HML.out _ _ _ _ _ hM9 hS9).mono ?_
        rintro r w11 ⟨rfl, hk⟩
        replace hb9 := hb9.trans (hk.mono hb9.size)
        go_wp2
        go_ret
        exact ⟨rfl, hb9⟩
theorem swapMoves_walk (a : Option Addr) (z : List Ev) (c : Nat) (n : Int) (w : World) (hf : EvS w a z ∧ z.length ≤ c ∧ z.length * 24 ≤ 140737488351232 ∧ ∀ e ∈ z, I64 e.k ∧ I64 e.t ∧ I64 e.o) (_ : I64 n) :
    Calls Try.prog 6 #[.slice a z.length c, .int .i64 n] w fun e w' => e = .returned (.bool true) ∧ Below w.heap.size w w' := by
  have h := hf.1
  have hc := hf.2.1
  clear hf
  by_cases hp : (played z).2.2 = 0
  · by_cases hz : 0 < z.length
    · exact swapMoves_ok a z c n w h hc hp hz
    · obtain rfl : z = [] := List.eq_nil_of_length_eq_zero (by omega)
      have HM := Lib.hid (show mayB [] = true by simp [mayB, hp])
      clear hp hz
      have hla := fun W (hW : EvS W a []) => may_any [] a c W hW
      rw [List.length_nil] at hla ⊢
      go_enter Try.func6, Try.ntmps6
      go_wp2_with fail
      refine (swapped_any _).mono ?_
      rintro r w1 ⟨rfl, hb⟩
      go_wp2_with fail
      refine (hla _ (h.below hb)).mono ?_
      rintro r w2 ⟨rfl, hk⟩
      rw [HM.out]
      replace hb := hb.trans (hk.mono hb.size)
      go_wp2
      go_ret
      exact ⟨rfl, hb⟩
  · have HM := Lib.hid (show mayB z = false by simpa [mayB] using hp)
    clear hp
    go_enter Try.func6, Try.ntmps6
    go_wp2_with fail
    refine (swapped_any _).mono ?_
    rintro r w1 ⟨rfl, hb⟩
    go_wp2_with fail
    refine (may_any z a c _ (h.below hb)).mono ?_
    rintro r w2 ⟨rfl, hk⟩
    rw [HM.out]
    replace hb := hb.trans (hk.mono hb.size)
    go_wp2
    go_ret
    exact ⟨rfl, hb⟩
/-! The frame of the law SwapMoves, by program. -/
set_option maxRecDepth 100000 in
theorem swapMoves_lifted (os : Os) (started : os.Started) (H : Type) (enc : TypeId × Value → H) :
    ReturnsInHanded {} Try.checked os 6 .any (Rows.swapMovesSpec.pre6 enc Try.prog Try.f6 Rows.swapMovesRow.domain false) (Rows.swapMovesSpec.post enc Try.prog Try.f6 false true false false) := by
  refine returnsInHanded_of_change_shaped (C := Try.checked) frame_own started (by kernel_rfl) Try.func6
    (ChangeSpec.witness6 (enc := enc) (C := Try.checked) false ⟨#[], #[.slice none 0 0, .int .i64 0], []⟩ 8 (by kernel_rfl) (by kernel_rfl) (by kernel_rfl) (by kernel_rfl)) ?_
  intro W base args ds gs before hval0 hW hcnd hsz hshaped hroom
  clear hcnd hshaped
  have hval : ∀ (j : Nat) t v, Try.f6.params[j]? = some t → args[j]? = some v → Value.okWide Try.prog W .any base t v := hval0
  have hW' := hW
  obtain ⟨p, q, hA0, hV, rfl, hfz, hnd⟩ := hW
  have hA : DataW.TrodAll enc Try.prog W 0 (fun _ => true) true Try.f6.params.toList args.toList ds p := hA0
  rw [Try.params6] at hA hval
  obtain ⟨v0, vs0, d0, ds0, p0, q0, hargs, rfl, rfl, h0, r0⟩ := trodAll_cons hA
  obtain ⟨v1, vs1, d1, ds1, p1, q1, rfl, rfl, rfl, h1, r1⟩ := trodAll_cons r0
  obtain ⟨rfl, rfl, rfl⟩ := trodAll_nil r1
  obtain rfl : args = #[v0, v1] := by cases args; simp_all
  obtain ⟨rfl, rfl⟩ := trodVars_none hV
  have k0 := h0
  have lt0 : ∀ x ∈ p0, x.block < W.heap.size := by obtain ⟨m, hm⟩ := k0; exact DataW.trod_lt m _ _ _ hm
  obtain ⟨a0, z0, c0, rfl, w0⟩ := open_evs (hval 0 28 v0 rfl rfl) h0 (fun els sp hd => sized_slice hsz (j := 0) rfl (by rw [hd]; rfl) Try.underlying28)
  have k1 := h1
  have lt1 : ∀ x ∈ p1, x.block < W.heap.size := by obtain ⟨m, hm⟩ := k1; exact DataW.trod_lt m _ _ _ hm
  obtain ⟨a1, rfl, rfl, rfl, w1⟩ := open_int Try.underlying3 (hval 1 3 v1 rfl rfl) h1
  clear hA0 hval0
  refine (swapMoves_walk a0 z0 c0 a1 W w0 (wf_i64 w1)).mono fun e W' ⟨he, bel⟩ => ?_
  subst he
  exact ⟨_, rfl, _, _, _, [], _, [], hW', trodAll_mk1 (shut_bool Try.underlying4 _), (trodAll_cons_mk (Below.trod frame_laid (by kernel_rfl) (of_decide_eq_true (by kernel_rfl)) k0 bel lt0) (trodAll_cons_mk (Below.trod frame_laid (by kernel_rfl) (of_decide_eq_true (by kernel_rfl)) k1 bel lt1) trodAll_mk0)), rfl, bel.frame _, fun h => by cases h⟩

theorem swapMoves_over : Rows.swapMovesRow.holds Try.pinned (OpenSpec.ofChange Rows.swapMovesSpec) :=
  OpenClaim.holds_of_wide 6 Try.f6 rfl rfl rfl rfl rfl rfl rfl ⟨rfl, rfl, rfl, rfl, rfl⟩ rfl rfl rfl rfl rfl (by kernel_rfl) Try.func6 (by kernel_rfl)
    (of_decide_eq_true (by kernel_rfl)) (by unfold Func.isWrapper; first | (rw [if_pos (by decide +kernel)]; kernel_rfl) | (rw [if_neg (by decide +kernel)]; exact ⟨rfl, rfl⟩))
    (fun os started H enc _ => swapMoves_lifted os started H enc)

/-- The statement. -/
theorem swapMoves_holds : Rows.SwapMovesSaid := swapMoves_over

end Go.Proofs.Ytdgkedpggmkclaa
