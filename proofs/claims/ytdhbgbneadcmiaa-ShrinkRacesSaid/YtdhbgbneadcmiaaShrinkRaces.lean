/- ShrinkRaces: a reduced trace is valid, has a race, and is a subsequence of the original one: for every trace. -/
import Derived.Test.YtdhbgbneadcmiaaRows
import Derived.Test.YtdhbgbneadcmiaaShd
import Derived.Test.YtdhbgbneadcmiaaEqE
import Derived.Test.YtdhbgbneadcmiaaOpenE
namespace Go.Proofs.Ytdhbgbneadcmiaa
open Go.ChangeShapes Go.WideShapes Go.ChangeAt Go.RowKit

/-- How many of m have been met among the first n of l. -/
def gk (m l : List Ev) : Nat → Nat
  | 0 => 0
  | n + 1 => if gk m l n < m.length ∧ m[gk m l n]? = l[n]? then gk m l n + 1 else gk m l n
theorem gk_le (m l : List Ev) : ∀ n, gk m l n ≤ m.length
  | 0 => Nat.zero_le _
  | n + 1 => by
    have := gk_le m l n
    simp only [gk]
    split <;> omega
theorem sub_tail {a b : Ev} {s t : List Ev} (h : (a :: s).Sublist (b :: t)) (hne : a ≠ b) : (a :: s).Sublist t := by
  cases h with
  | cons _ h => exact h
  | cons_cons _ h => exact absurd rfl hne
theorem gk_sub {m l : List Ev} (h : m.Sublist l) : ∀ n, n ≤ l.length → (m.drop (gk m l n)).Sublist (l.drop n)
  | 0, _ => h
  | n + 1, hn => by
    have ih := gk_sub h n (by omega)
    have hl : l.drop n = l[n] :: l.drop (n + 1) := List.drop_eq_getElem_cons (by omega)
    rw [hl] at ih
    simp only [gk]
    by_cases hk : gk m l n < m.length
    · rw [List.getElem?_eq_getElem hk, List.getElem?_eq_getElem (show n < l.length by omega)]
      have hd : m.drop (gk m l n) = m[gk m l n] :: m.drop (gk m l n + 1) := List.drop_eq_getElem_cons hk
      rw [hd] at ih
      by_cases he : m[gk m l n] = l[n]
      · rw [if_pos ⟨hk, by rw [he]⟩]
        rw [he] at ih
        exact List.cons_sublist_cons.1 ih
      · rw [if_neg (fun e => he (Option.some.inj e.2)), hd]
        exact sub_tail ih he
    · rw [if_neg (fun e => hk e.1), List.drop_eq_nil_of_le (by omega)]
      exact List.nil_sublist _
theorem gk_all {m l : List Ev} (h : m.Sublist l) : gk m l l.length = m.length := by
  have h1 := gk_sub h l.length (Nat.le_refl _)
  rw [List.drop_eq_nil_of_le (Nat.le_refl l.length)] at h1
  have h2 := List.eq_nil_of_sublist_nil h1
  have h3 := gk_le m l l.length
  have h4 : (m.drop (gk m l l.length)).length = 0 := by rw [h2]; rfl
  rw [List.length_drop] at h4
  omega
/-- Some race. -/
theorem all_some (l : List Ev) (n : Nat) (hn : l.length = n) (a : Option Addr) (c : Nat) (w : World) (h : EvS w a l) (hr : Racy l) :
    Calls Try.prog 13 #[.slice a n c] w fun r w' => (∃ a' c', r = .returned (.tuple #[.slice a' (raceL l).length c', .int .i64 0])) ∧ Below w.heap.size w w' := by
  subst hn
  refine (all_ok l a c w h hr.ok).mono ?_
  rintro r w1 ⟨v, rfl, hown, hb⟩
  refine ⟨?_, hb⟩
  rcases hown.2 with ⟨rfl, h0⟩ | ⟨g, cap, cur, rfl, _⟩
  · rw [h0]; exact ⟨_, _, rfl⟩
  · exact ⟨_, _, rfl⟩
theorem all_free (l : List Ev) (n : Nat) (hn : l.length = n) (a : Option Addr) (c : Nat) (w : World) (h : EvS w a l) (he : (played l).2.2 = 0) (hr : raceL l = []) :
    Calls Try.prog 13 #[.slice a n c] w fun r w' => (∃ a' c', r = .returned (.tuple #[.slice a' 0 c', .int .i64 0])) ∧ Below w.heap.size w w' := by
  subst hn
  refine (all_ok l a c w h he).mono ?_
  rintro r w1 ⟨v, rfl, hown, hb⟩
  rw [hr] at hown
  refine ⟨?_, hb⟩
  rcases hown.2 with ⟨rfl, _⟩ | ⟨g, cap, cur, rfl, _⟩
  · exact ⟨_, _, rfl⟩
  · exact ⟨_, _, rfl⟩
set_option maxRecDepth 100000 in
set_option maxHeartbeats 4000000 in
theorem shrinkRaces_walk (a : Option Addr) (z : List Ev) (c : Nat) (w : World) (hf : EvS w a z ∧ z.length ≤ c ∧ z.length * 24 ≤ 140737488351232 ∧ ∀ e ∈ z, I64 e.k ∧ I64 e.t ∧ I64 e.o) :
    Calls Try.prog 4 #[.slice a z.length c] w fun e w' => e = .returned (.bool true) ∧ Below w.heap.size w w' := by
  have h := hf.1
  clear hf
  by_cases hr : Racy z
  · have hm := (mini_is z).racy hr
    have hz80 := (played_evs hr.ok).1
    have hml := (played_evs hm.ok).1
    have hpos : 0 < (raceL (mini z)).length := List.length_pos_iff.2 hm.race
    have hgk := gk_all (mini_is z).sub
    have HC := Lib.hid fun W (hW : EvS W a z) => min_ok z z.length rfl a c W hW hr
    have HA := Lib.hid fun W (hW : EvS W a z) => all_some z _ rfl a c W hW hr
    have HA2 := Lib.hid fun (a : Option Addr) (c : Nat) (W : World) (hW : EvS W a (mini z)) => all_some (mini z) _ rfl a c W hW hm
    have HMB := Lib.hid fun (a : Option Addr) (c : Nat) (W : World) (hW : EvS W a (mini z)) => may_any (mini z) a c W hW
    rw [show mayB (mini z) = true by simp [mayB, hm.ok]] at HMB
    have HG := Lib.hid hgk
    have hle := gk_le (mini z) z
    have hgs : ∀ n, gk (mini z) z (n + 1) = if gk (mini z) z n < (mini z).length ∧ (mini z)[gk (mini z) z n]? = z[n]? then gk (mini z) z n + 1 else gk (mini z) z n := fun _ => rfl
    have HLE := Lib.hid hle
    have HGS := Lib.hid hgs
    have heq := eql_ev
    have HEQ := Lib.hid heq
    clear hm hr hgk hle hgs heq
    generalize mini z = M at *
    generalize (raceL M).length = R at *
    generalize (raceL z).length = RZ at *
    go_enter Try.func4, Try.ntmps4
    go_wp2_with fail
    refine (shrunk_any _).mono ?_
    rintro r w1 ⟨rfl, hb⟩
    go_wp2_with fail
    refine (HC.out _ (h.below hb)).mono ?_
    rintro r w2 ⟨a2, c2, rfl, hS, hk⟩
    replace hb := hb.trans (hk.mono hb.size)
    clear hk HC
    go_wp2_with fail
    refine (HA.out _ (h.below hb)).mono ?_
    rintro r w3 ⟨⟨a3, c3, rfl⟩, hk⟩
    replace hb := hb.trans (hk.mono hb.size)
    replace hS := hS.below hk
    replace h := h.below hb
    clear hk HA
    have hI := Below.refl w3.heap.size w3
    have hk0 : gk M z 0 = 0 := rfl
    go_wp2
    go_loopw [7, 48] (fun q i wr => ∃ n : Nat, n ≤ z.length ∧ i = .int .i64 n ∧ q = .int .i64 (gk M z n : Nat) ∧ Below w3.heap.size w3 wr) (fun _ i _ => z.length - (intOf i).toNat)
    case atStart => exact ⟨0, Nat.zero_le _, rfl, rfl, hI⟩
    case round =>
      clear hI hk0
      obtain ⟨n, hn, rfl, rfl, hb2⟩ := hrel
      by_cases hlt : n < z.length
      · obtain ⟨g, o, rfl, d0, d1, d2⟩ := (h.below hb2).at hlt
        have hs := HGS.out n
        have hle := HLE.out n
        rw [List.getElem?_eq_getElem hlt] at hs
        generalize z[n] = x at *
        generalize gk M z n = q at *
        have hN := Has.new wr (evC x) 40
        have hb3 := hb2.alloc hb2.size (.cells (evC x) 40)
        have k0 : (0 : Int) ≤ n := by omega
        have k1 : (n : Int) < z.length := by omega
        have q0 : (0 : Int) ≤ q := by omega
        have hqw := IntWalk.i64_in ((q : Int) + 1) (by omega)
        have HS := Lib.hid hs
        clear hs
        go_upto_region 11 with fail
        clear d0 d1 d2 hb2
        generalize wr.alloc (.cells (evC x) 40) = w4 at *
        obtain ⟨x0, x1, x2⟩ : w4.cell? ⟨wr.heap.size, 0, none⟩ = some (.int .i64 x.k) ∧ w4.cell? ⟨wr.heap.size, 1, none⟩ = some (.int .i64 x.t) ∧ w4.cell? ⟨wr.heap.size, 2, none⟩ = some (.int .i64 x.o) := ⟨hN.cell rfl, hN.cell rfl, hN.cell rfl⟩
        by_cases hq : q < M.length
        · have hqd : decide (q < M.length) = true := decide_eq_true hq
          have q1 : (q : Int) < M.length := by omega
          obtain ⟨g2, o2, rfl, y0, y1, y2⟩ := (hS.below hb3).at hq
          rw [List.getElem?_eq_getElem hq] at HS
          generalize M[q] = y at *
          by_cases hy : y = x
          · have HQ := Lib.hid (show gk M z (n + 1) = q + 1 by rw [HS.out, if_pos ⟨hq, by rw [hy]⟩])
            have hbo : ∀ W, (binOp .eql 40 (evV y) (evV x)).run Try.prog W = .ok (.bool true) W := fun W => by rw [HEQ.out]; simp [hy]
            clear hy HS
            refine wp_region_quiet_lit (by kernel_rfl) (by kernel_rfl) ?_
            repeat (with_reducible refine wpQuiet_step (fun K hK => ?_); go_simp; with_reducible refine hK _ ?_; clear hK K)
            with_reducible refine wpQuiet_nil ?_
            rintro _ ⟨nq, rfl⟩
            clear x0 x1 x2 y0 y1 y2 hbo
            go_wp2
            go_roundw
            case rel => exact ⟨n + 1, by omega, by go_num, by rw [HQ.out]; go_num, below_drewN hb3 _⟩
            case measure => (simp [intOf]; try omega)
          · have HQ := Lib.hid (show gk M z (n + 1) = q by rw [HS.out, if_neg (fun e => hy (Option.some.inj e.2))])
            have hbo : ∀ W, (binOp .eql 40 (evV y) (evV x)).run Try.prog W = .ok (.bool false) W := fun W => by rw [HEQ.out]; simp [hy]
            clear hy HS
            refine wp_region_quiet_lit (by kernel_rfl) (by kernel_rfl) ?_
            repeat (with_reducible refine wpQuiet_step (fun K hK => ?_); go_simp; with_reducible refine hK _ ?_; clear hK K)
            with_reducible refine wpQuiet_nil ?_
            rintro _ ⟨nq, rfl⟩
            clear x0 x1 x2 y0 y1 y2 hbo
            go_wp2
            go_roundw
            case rel => exact ⟨n + 1, by omega, by go_num, by rw [HQ.out], below_drewN hb3 _⟩
            case measure => (simp [intOf]; try omega)
        · have hqd : decide (q < M.length) = false := decide_eq_false hq
          have HQ := Lib.hid (show gk M z (n + 1) = q by rw [HS.out, if_neg (fun e => hq e.1)])
          clear HS
          refine wp_region_quiet_lit (by kernel_rfl) (by kernel_rfl) ?_
          repeat (with_reducible refine wpQuiet_step (fun K hK => ?_); go_simp; with_reducible refine hK _ ?_; clear hK K)
          with_reducible refine wpQuiet_nil ?_
          rintro _ ⟨nq, rfl⟩
          clear x0 x1 x2
          go_wp2
          go_roundw
          case rel => exact ⟨n + 1, by omega, by go_num, by rw [HQ.out], below_drewN hb3 _⟩
          case measure => (simp [intOf]; try omega)
      · obtain rfl : n = z.length := by omega
        have hb3 := hb.trans (hb2.mono hb.size)
        have hS3 := hS.below hb2
        have hpd : decide (0 < R) = true := decide_eq_true hpos
        rw [HG.out]
        clear hb hb2 hS
        go_wp2_with fail
        refine (HA2.out _ _ _ hS3).mono ?_
        rintro r w4 ⟨⟨a4, c4, rfl⟩, hk4⟩
        have hb4 := hb3.trans (hk4.mono hb3.size)
        have hS4 := hS3.below hk4
        clear hk4 hS3 hb3
        go_wp2_with fail
        refine (HMB.out _ _ _ hS4).mono ?_
        rintro r w5 ⟨rfl, hk5⟩
        have hb5 := hb4.trans (hk5.mono hb4.size)
        go_wp2
        go_ret
        exact ⟨rfl, hb5⟩
  · have HC := Lib.hid fun W (hW : EvS W a z) => min_no z z.length rfl a c W hW hr
    by_cases he : (played z).2.2 = 0
    · rw [if_pos he] at HC
      have hnil : raceL z = [] := by
        by_cases e : raceL z = []
        · exact e
        · exact absurd ⟨he, e⟩ hr
      have HA := Lib.hid fun W (hW : EvS W a z) => all_free z z.length rfl a c W hW he hnil
      clear hr he hnil
      go_enter Try.func4, Try.ntmps4
      go_wp2_with fail
      refine (shrunk_any _).mono ?_
      rintro r w1 ⟨rfl, hb⟩
      go_wp2_with fail
      refine (HC.out _ (h.below hb)).mono ?_
      rintro r w2 ⟨rfl, hk⟩
      replace hb := hb.trans (hk.mono hb.size)
      go_wp2_with fail
      refine (HA.out _ (h.below hb)).mono ?_
      rintro r w3 ⟨⟨a3, c3, rfl⟩, hk⟩
      replace hb := hb.trans (hk.mono hb.size)
      go_wp2
      go_ret
      exact ⟨rfl, hb⟩
    · rw [if_neg he] at HC
      have e1 : ((played z).2.2 != 0) = true := by simpa using he
      have e2 : ((played z).2.2 == 0) = false := by simpa using he
      have HA := Lib.hid fun W (hW : EvS W a z) => all_err z a c W hW he
      clear hr he
      generalize (played z).2.2 = E at *
      go_enter Try.func4, Try.ntmps4
      go_wp2_with fail
      refine (shrunk_any _).mono ?_
      rintro r w1 ⟨rfl, hb⟩
      go_wp2_with fail
      refine (HC.out _ (h.below hb)).mono ?_
      rintro r w2 ⟨rfl, hk⟩
      replace hb := hb.trans (hk.mono hb.size)
      go_wp2_with fail
      refine (HA.out _ (h.below hb)).mono ?_
      rintro r w3 ⟨rfl, hk⟩
      replace hb := hb.trans (hk.mono hb.size)
      go_wp2
      go_ret
      exact ⟨rfl, hb⟩
/-! The frame of the law ShrinkRaces, by program. -/
set_option maxRecDepth 100000 in
theorem shrinkRaces_lifted (os : Os) (started : os.Started) (H : Type) (enc : TypeId × Value → H) :
    ReturnsInHanded {} Try.checked os 4 .any (Rows.shrinkRacesSpec.pre6 enc Try.prog Try.f4 Rows.shrinkRacesRow.domain false) (Rows.shrinkRacesSpec.post enc Try.prog Try.f4 false true false false) := by
  refine returnsInHanded_of_change_shaped (C := Try.checked) frame_own started (by kernel_rfl) Try.func4
    (ChangeSpec.witness6 (enc := enc) (C := Try.checked) false ⟨#[], #[.slice none 0 0], []⟩ 8 (by kernel_rfl) (by kernel_rfl) (by kernel_rfl) (by kernel_rfl)) ?_
  intro W base args ds gs before hval0 hW hcnd hsz hshaped hroom
  clear hcnd hshaped
  have hval : ∀ (j : Nat) t v, Try.f4.params[j]? = some t → args[j]? = some v → Value.okWide Try.prog W .any base t v := hval0
  have hW' := hW
  obtain ⟨p, q, hA0, hV, rfl, hfz, hnd⟩ := hW
  have hA : DataW.TrodAll enc Try.prog W 0 (fun _ => true) true Try.f4.params.toList args.toList ds p := hA0
  rw [Try.params4] at hA hval
  obtain ⟨v0, vs0, d0, ds0, p0, q0, hargs, rfl, rfl, h0, r0⟩ := trodAll_cons hA
  obtain ⟨rfl, rfl, rfl⟩ := trodAll_nil r0
  obtain rfl : args = #[v0] := by cases args; simp_all
  obtain ⟨rfl, rfl⟩ := trodVars_none hV
  have k0 := h0
  have lt0 : ∀ x ∈ p0, x.block < W.heap.size := by obtain ⟨m, hm⟩ := k0; exact DataW.trod_lt m _ _ _ hm
  obtain ⟨a0, z0, c0, rfl, w0⟩ := open_evs (hval 0 22 v0 rfl rfl) h0 (fun els sp hd => sized_slice hsz (j := 0) rfl (by rw [hd]; rfl) Try.underlying22)
  clear hA0 hval0
  refine (shrinkRaces_walk a0 z0 c0 W w0).mono fun e W' ⟨he, bel⟩ => ?_
  subst he
  exact ⟨_, rfl, _, _, _, [], _, [], hW', trodAll_mk1 (shut_bool Try.underlying4 _), (trodAll_cons_mk (Below.trod frame_laid (by kernel_rfl) (of_decide_eq_true (by kernel_rfl)) k0 bel lt0) trodAll_mk0), rfl, bel.frame _, fun h => by cases h⟩

theorem shrinkRaces_over : Rows.shrinkRacesRow.holds Try.pinned (OpenSpec.ofChange Rows.shrinkRacesSpec) :=
  OpenClaim.holds_of_wide 4 Try.f4 rfl rfl rfl rfl rfl rfl rfl ⟨rfl, rfl, rfl, rfl, rfl⟩ rfl rfl rfl rfl rfl (by kernel_rfl) Try.func4 (by kernel_rfl)
    (of_decide_eq_true (by kernel_rfl)) (by unfold Func.isWrapper; first | (rw [if_pos (by decide +kernel)]; kernel_rfl) | (rw [if_neg (by decide +kernel)]; exact ⟨rfl, rfl⟩))
    (fun os started H enc _ => shrinkRaces_lifted os started H enc)

/-- The statement. -/
theorem shrinkRaces_holds : Rows.ShrinkRacesSaid := shrinkRaces_over

end Go.Proofs.Ytdhbgbneadcmiaa
