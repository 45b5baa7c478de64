/- Contract of Swap. -/
import Derived.Test.YtmeidjhojanogaaOwA
import Derived.Test.YtmeidjhojanogaaSwpA
import Derived.Test.YtmeidjhojanogaaTwo
import Derived.Test.YtmeidjhojanogaaEqE
import Derived.Deep.RegionLaw
namespace Go.Proofs.Ytmeidjhojanogaa
open Go.RowKit

/-- What a swap leaves: a row of the call's own. -/
def SwapPost (m : List Ev) (w : World) (r : Ending) (w' : World) : Prop := ∃ a c, r = .returned (.tuple #[.slice a m.length c, .int .i64 0]) ∧ EvF w.heap.size w' a m ∧ m.length ≤ c ∧ Below w.heap.size w w'
theorem RowO.of_own_cap {w : World} {base : Nat} {e : TypeId} {v : Value} {l : List Ev} (h : w.ownsRow base e 3 v l.length (evL l)) (hl : l ≠ []) : ∃ g c cur, v = .slice (some ⟨g, 0, none⟩) l.length c ∧ Has w g cur e ∧ cur.toList.take (l.length * 3) = evL l ∧ base ≤ g ∧ l.length ≤ c := by
  rcases h.2 with ⟨rfl, hn⟩ | ⟨g, cap, cur, rfl, hg, hh, hc, _, _, ht⟩
  · exact absurd (List.eq_nil_of_length_eq_zero hn) hl
  · exact ⟨g, cap, cur, rfl, ⟨hh⟩, ht, hg, hc⟩
/-- Whether it can be swapped. -/
def swOk (l : List Ev) (i : Int) : Bool := decide ((played l).2.2 = 0) && decide (0 ≤ i) && decide (i + 1 < l.length) && apartB (l.getD i.toNat ⟨0, 0, 0⟩) (l.getD (i.toNat + 1) ⟨0, 0, 0⟩)
set_option maxRecDepth 100000 in
set_option maxHeartbeats 2000000 in
theorem swap_ok (l : List Ev) (a : Option Addr) (c k : Nat) (w : World) (h : EvS w a l) (hp : (played l).2.2 = 0) (hk : k + 1 < l.length) (hA : apartB l[k] l[k + 1] = true) :
    Calls Try.prog 6 #[.slice a l.length c, .int .i64 k] w (SwapPost (sw l k) w) := by
  have hl80 := (played_evs hp).1
  have hkl : k < l.length := by omega
  have hl0 : l ≠ [] := fun e => by rw [e] at hk; simp at hk
  have hcl := fun W (hW : EvS W a l) => cloneEv_any l a c W hW hl0 (by omega)
  have hsp := sw_parts hk
  have HP := Lib.hid hp
  have HC := Lib.hid hcl
  have HS := Lib.hid hsp
  have hlen := sw_len l k
  have HL := Lib.hid hlen
  have hap := apart_any l[k] l[k + 1]
  rw [hA] at hap
  have hsw : sw l k = (l.set k l[k + 1]).set (k + 1) l[k] := by unfold sw; simp [List.getD, hk, hkl]
  have HSW := Lib.hid hsw
  clear hcl hsp hlen hA hsw
  go_enter Try.func6, Try.ntmps6
  go_wp2_with fail
  refine (check_any l a c _ h).mono ?_
  rintro r w1 ⟨rfl, hb⟩
  rw [HP.out]
  replace h := h.below hb
  obtain ⟨b, o, rfl, d0, d1, d2⟩ := h.at hkl
  obtain ⟨b', o', hbo, e0, e1, e2⟩ := h.at hk
  cases hbo
  have hw1 := IntWalk.i64_in ((k : Int) + 1) (by omega)
  have hw2 := IntWalk.i64_in ((l.length : Int) - 1) (by omega)
  have k0 : (0 : Int) ≤ k := by omega
  have k1 : (k : Int) < l.length := by omega
  have k2 : (0 : Int) ≤ (k : Int) + 1 := by omega
  have k3 : (k : Int) + 1 < l.length := by omega
  have k4 : decide ((k : Int) < 0) = false := decide_eq_false (by omega)
  have k5 : decide ((k : Int) ≥ (l.length : Int) - 1) = false := decide_eq_false (by omega)
  have hbl := block_lt_of_cell d0
  generalize hx : l[k] = x at *
  generalize hy : l[k + 1] = y at *
  have HX := Lib.hid hx
  have HY := Lib.hid hy
  have HAP := Lib.hid hap
  clear hx hy hap
  go_upto_region 6 with fail
  go_cut [26] (fun v wz => v = .bool false ∧ Below w1.heap.size w1 wz)
  case first =>
    go_region_law (first | (go_simp; go_at_call 11; refine (HAP.out _).mono ?_; rintro r w3 ⟨rfl, hk3⟩))
    all_goals
      go_wp2
      go_meet
      exact ⟨rfl, (Below.refl _ _).drew.trans hk3⟩
  case rest =>
    obtain ⟨rfl, hk3⟩ := hcut
    replace h := h.below hk3
    replace hb := hb.trans (hk3.mono hb.size)
    clear hk3 d0 d1 d2 e0 e1 e2 hbl
    go_wp2_with fail
    refine (HC.out _ h).mono ?_
    rintro r w4 ⟨v, rfl, hown, hk4⟩
    obtain ⟨g, c2, cur, rfl, hh, hcur, hg, hc2⟩ := RowO.of_own_cap hown hl0
    have hRO : RowO w4 26 (some ⟨g, 0, none⟩) l := .inr ⟨g, cur, rfl, hh, hcur⟩
    have hES := hRO.evs (by omega)
    obtain ⟨b', o', hbo, d0, d1, d2⟩ := hES.at hkl
    cases hbo
    obtain ⟨b', o', hbo, e0, e1, e2⟩ := hES.at hk
    cases hbo
    rw [HX.out] at d0 d1 d2
    rw [HY.out] at e0 e1 e2
    simp only [Nat.zero_add] at d0 d1 d2 e0 e1 e2
    have f0 := hh.free (k * 3)
    have f1 := hh.free (k * 3 + 1)
    have f2 := hh.free (k * 3 + 2)
    have f3 := hh.free ((k + 1) * 3)
    have f4 := hh.free ((k + 1) * 3 + 1)
    have f5 := hh.free ((k + 1) * 3 + 2)
    have hbl := block_lt_of_cell d0
    have hgw : w.heap.size ≤ g := Nat.le_trans hb.size hg
    go_upto_region 9 with fail
    go_region
    all_goals
      have hR2 := (hRO.setEv hkl y).setEv (i := k + 1) (by rw [List.length_set]; exact hk) x
      have hbk := (((((hb.trans (hk4.mono hb.size)).setCell (p := ⟨g, k * 3, none⟩) hgw (.int .i64 y.k)).setCell (p := ⟨g, k * 3 + 1, none⟩) hgw (.int .i64 y.t)).setCell (p := ⟨g, k * 3 + 2, none⟩) hgw (.int .i64 y.o)).setCell (p := ⟨g, (k + 1) * 3, none⟩) hgw (.int .i64 x.k)).setCell (p := ⟨g, (k + 1) * 3 + 1, none⟩) hgw (.int .i64 x.t)
      have hbk2 := (hbk.setCell (p := ⟨g, (k + 1) * 3 + 2, none⟩) hgw (.int .i64 x.o)).drew
      have hES2 := (hR2.evf hgw (by rw [List.length_set, List.length_set]; omega)).below (Below.refl _ _).drew
      rw [← HSW.out] at hES2
      clear hR2 hbk hRO hES hh d0 d1 d2 e0 e1 e2 f0 f1 f2 f3 f4 f5
      go_wp2
      go_ret2
      refine ⟨_, _, ?_, hES2, by rw [HL.out]; exact hc2, hbk2⟩
      rw [HL.out]
      rfl
theorem swOk_at {l : List Ev} {i : Int} (h : swOk l i = true) : ∃ k : Nat, ∃ hk : k + 1 < l.length, i = k ∧ (played l).2.2 = 0 ∧ apartB (l[k]'(by omega)) l[k + 1] = true := by
  simp only [swOk, Bool.and_eq_true, decide_eq_true_eq] at h
  obtain ⟨⟨⟨h1, h2⟩, h3⟩, h4⟩ := h
  have hk : i.toNat + 1 < l.length := by omega
  refine ⟨i.toNat, hk, by omega, h1, ?_⟩
  simpa [List.getD, hk, show i.toNat < l.length by omega] using h4
/-- No swap: a fault. -/
def NoSwap (w : World) (r : Ending) (w' : World) : Prop := ∃ e : Int, (e == 0) = false ∧ r = .returned (.tuple #[.slice none 0 0, .int .i64 e]) ∧ Below w.heap.size w w'
set_option maxRecDepth 100000 in
set_option maxHeartbeats 1000000 in
theorem swap_no (l : List Ev) (a : Option Addr) (c : Nat) (i : Int) (w : World) (h : EvS w a l) (hn : swOk l i = false) :
    Calls Try.prog 6 #[.slice a l.length c, .int .i64 i] w (NoSwap w) := by
  by_cases hp : (played l).2.2 = 0
  · have hl80 := (played_evs hp).1
    have HP := Lib.hid hp
    have hw2 := IntWalk.i64_in ((l.length : Int) - 1) (by omega)
    obtain ⟨q1, r1⟩ : ∃ q, decide (i < 0) = q := ⟨_, rfl⟩
    obtain ⟨q2, r2⟩ : ∃ q, decide (i ≥ (l.length : Int) - 1) = q := ⟨_, rfl⟩
    by_cases hin : 0 ≤ i ∧ i + 1 < l.length
    · obtain ⟨k, rfl⟩ := Int.eq_ofNat_of_zero_le hin.1
      have hk : k + 1 < l.length := by omega
      have hkl : k < l.length := by omega
      have hap : apartB l[k] l[k + 1] = false := by
        have e1 : swOk l (k : Int) = apartB l[k] l[k + 1] := by
          simp [swOk, hp, List.getD, hk, hkl]
          omega
        rw [← e1]; exact hn
      have hca := apart_any l[k] l[k + 1]
      rw [hap] at hca
      obtain rfl : q1 = false := by rw [← r1]; exact decide_eq_false (by omega)
      obtain rfl : q2 = false := by rw [← r2]; exact decide_eq_false (by omega)
      clear hp hn hap
      go_enter Try.func6, Try.ntmps6
      go_wp2_with fail
      refine (check_any l a c _ h).mono ?_
      rintro r w1 ⟨rfl, hb⟩
      rw [HP.out]
      replace h := h.below hb
      obtain ⟨b, o, rfl, d0, d1, d2⟩ := h.at hkl
      obtain ⟨b', o', hbo, e0, e1, e2⟩ := h.at hk
      cases hbo
      have hw1 := IntWalk.i64_in ((k : Int) + 1) (by omega)
      have k0 : (0 : Int) ≤ k := by omega
      have k1 : (k : Int) < l.length := by omega
      have k2 : (0 : Int) ≤ (k : Int) + 1 := by omega
      have k3 : (k : Int) + 1 < l.length := by omega
      have hbl := block_lt_of_cell d0
      generalize l[k] = x at *
      generalize l[k + 1] = y at *
      have HAP := Lib.hid hca
      clear hca hin
      go_upto_region 6 with fail
      go_cut [26] (fun v wz => v = .bool true ∧ Below w1.heap.size w1 wz)
      case first =>
        go_region_law (first | (go_simp; go_at_call 11; refine (HAP.out _).mono ?_; rintro r w3 ⟨rfl, hk3⟩))
        all_goals
          go_wp2
          go_meet
          exact ⟨rfl, (Below.refl _ _).drew.trans hk3⟩
      case rest =>
        obtain ⟨rfl, hk3⟩ := hcut
        replace hb := hb.trans (hk3.mono hb.size)
        clear hk3 d0 d1 d2 e0 e1 e2 hbl
        go_wp2
        go_ret2
        exact ⟨5, rfl, rfl, hb⟩
    · have hqq : q1 = true ∨ q2 = true := by
        rw [← r1, ← r2, decide_eq_true_eq, decide_eq_true_eq]
        omega
      clear hp hn hin
      go_enter Try.func6, Try.ntmps6
      go_wp2_with fail
      refine (check_any l a c _ h).mono ?_
      rintro r w1 ⟨rfl, hb⟩
      rw [HP.out]
      cases q1
      · obtain rfl : q2 = true := by simpa using hqq
        clear hqq
        go_wp2
        go_ret2
        exact ⟨1, rfl, rfl, hb⟩
      · clear hqq
        go_wp2
        go_ret2
        exact ⟨1, rfl, rfl, hb⟩
  · have e2 : ((played l).2.2 != 0) = true := by simpa using hp
    have hz : ((played l).2.2 == 0) = false := by simpa using hp
    clear hn
    go_enter Try.func6, Try.ntmps6
    go_wp2_with fail
    refine (check_any l a c _ h).mono ?_
    rintro r w1 ⟨rfl, hb⟩
    go_wp2
    go_ret2
    exact ⟨_, hz, rfl, hb⟩
end Go.Proofs.Ytmeidjhojanogaa
